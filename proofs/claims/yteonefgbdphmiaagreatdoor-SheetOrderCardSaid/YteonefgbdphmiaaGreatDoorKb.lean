/- Plain: the texts of chapter 05's laws, read back. -/
import Derived.Test.YteonefgbdphmiaaGreatDoorKp
namespace Go.Proofs.YteonefgbdphmiaaGreatDoor
open Go.RowKit
def OD (l : Nms) : List UInt8 := (l.map oddL).flatten
theorem od_snoc (l : Nms) (s : List UInt8) : ba (OD l) ++ ⟨#[9]⟩ ++ ba s ++ ⟨#[32, 32, 35, 32, 114, 101, 109, 97, 114, 107, 10, 10]⟩ = ba (OD (l ++ [s])) := by
  rw [cZ [9], cZ [32, 32, 35, 32, 114, 101, 109, 97, 114, 107, 10, 10], ba_appZ, ba_appZ, ba_appZ]
  congr 1
  simp [OD, oddL, oddT]
theorem od_le (l : Nms) (h : ∀ s ∈ l, s.length ≤ 4000) : (OD l).length ≤ l.length * 4013 := by
  induction l with
  | nil => simp [OD]
  | cons a r ih =>
    have h1 := h a (by simp)
    have h2 := ih fun s hs => h s (by simp [hs])
    have e : (OD (a :: r)).length = (a.length + 13) + (OD r).length := by simp [OD, oddL, oddT]; omega
    rw [e, List.length_cons, Nat.add_mul]
    omega
theorem od_big (l : Nms) : (textL l).length ≤ (OD l).length := by
  induction l with
  | nil => simp [OD, textL]
  | cons a r ih =>
    have e : (OD (a :: r)).length = (a.length + 13) + (OD r).length := by simp [OD, oddL, oddT]; omega
    have e2 : (textL (a :: r)).length = (a.length + 1) + (textL r).length := by simp [textL]; omega
    omega
theorem od_small (D : Nms) (h : ∀ s ∈ D, s.length ≤ 4000) (hl : D.length ≤ 6201) (k : Nat) : (ba (OD (D.take k))).size ≤ 24884613 := by
  rw [ba_size]
  have h1 := od_le (D.take k) fun s hs => h s (List.mem_of_mem_take hs)
  have h2 : (D.take k).length ≤ 6201 := by rw [List.length_take]; omega
  have h3 : (D.take k).length * 4013 ≤ 6201 * 4013 := Nat.mul_le_mul_right _ h2
  omega
theorem tx_small (D : Nms) (h : ∀ s ∈ D, s.length ≤ 4000) (hl : D.length ≤ 6201) (k : Nat) : (ba (textL (D.take k))).size ≤ 24810201 := by
  rw [ba_size]
  have h1 := textL_le (D.take k) (B := 4000) fun s hs => h s (List.mem_of_mem_take hs)
  have h2 : (D.take k).length ≤ 6201 := by rw [List.length_take]; omega
  have h3 : (D.take k).length * (4000 + 1) ≤ 6201 * (4000 + 1) := Nat.mul_le_mul_right _ h2
  omega
theorem odd_back {x : SheetD} (hc : checkD x = 0) (u : ByteArray) (hu : u.data.toList = OD (linesD x)) (hs : u.size ≤ 65536) : parseS u = (x, ⟨0, 0, 0⟩) := by
  obtain ⟨g0, g1⟩ := items_lay hc
  obtain ⟨hk, he⟩ := lex_odd u (linesP x) (by rw [hu, ← linesP_D]; unfold OD; rw [List.map_map]; rfl) hs (fun q hq => by
    rw [linesP_items] at hq
    rcases List.mem_cons.1 hq with rfl | hq
    · exact g0
    · obtain ⟨it, hi, rfl⟩ := List.mem_map.1 hq
      exact g1 it hi)
  rw [linesP_items] at hk
  have h := parse_keys u x.hor (itemsD x) hk he (items_ok hc) (by rw [fold_items]; exact (check_ok hc).1)
  rw [fold_items] at h
  exact h
theorem one_back {x : SheetD} (hc : checkD x = 0) (it : ItemD) (hi : it ∈ itemsD x) (u : ByteArray) (hu : u.data.toList = horL x.hor ++ 10 :: line it.P.1) (hs : u.size ≤ 65536) : ∃ y, parseS u = (y, ⟨0, 0, 0⟩) ∧ thingsD y = 1 ∧ checkD y = 0 := by
  obtain ⟨y, hsb, hy⟩ := sub_items (x := x) (l := [it]) (List.singleton_sublist.2 hi)
  have hcy := hsb.check hc
  obtain ⟨g0, g1⟩ := items_lay hcy
  have hm : it ∈ itemsD y := by rw [hy]; exact List.mem_singleton.2 rfl
  obtain ⟨hk, he⟩ := lex_join u (horP y.hor) [it.P] (by rw [hu, hsb.h]; simp [joinN, horP, horL]) hs g0 (fun q hq => by rw [List.mem_singleton] at hq; subst hq; exact g1 it hm)
  have h := parse_keys u y.hor (itemsD y) (by rw [hk, hy]; rfl) he (items_ok hcy) (by rw [fold_items]; exact (check_ok hcy).1)
  rw [fold_items] at h
  exact ⟨y, h, by rw [← items_len, hy]; rfl, hcy⟩
/-- The law's last text. -/
theorem two_back {x : SheetD} (hc : checkD x = 0) (D : Nms) (hD : linesD x = D) (j : Nat) (hj : j < D.length) (u : ByteArray) (hu : u = ba (D[0]'(by omega)) ++ ⟨#[10]⟩ ++ ba D[j]) (hs : u.size ≤ 65536) :
    (j = 0 → parseS u = (zeroD, ⟨7, 2, 1⟩)) ∧ (j ≠ 0 → ∃ y, parseS u = (y, ⟨0, 0, 0⟩) ∧ thingsD y = 1 ∧ checkD y = 0) := by
  subst hD
  have e := linesD_items x
  have e0 : (linesD x)[0]'(by omega) = horL x.hor := by simp [e]
  have hul : u.data.toList = horL x.hor ++ 10 :: (linesD x)[j] := by rw [hu, e0, cZ [10], ba_appZ, ba_appZ]; simp [ba]
  refine ⟨fun h => ?_, fun h => ?_⟩
  · subst h
    rw [e0] at hul
    have hh : okN x.hor = true := (check_ok hc).2.2.1 _ (in_nums (.inl rfl))
    exact twice_fault hh (ba (horL x.hor)) u rfl hul hs
  · obtain ⟨i, rfl⟩ : ∃ i, j = i + 1 := ⟨j - 1, by omega⟩
    have hi : i < (itemsD x).length := by rw [e, List.length_cons, List.length_map] at hj; omega
    have ej : (linesD x)[i + 1] = line (itemsD x)[i].P.1 := by simp [e]
    rw [ej] at hul
    exact one_back hc _ (List.getElem_mem hi) u hul hs
/-- Two sheets' things, kind by kind. -/
def joinD (x y : SheetD) : SheetD := ⟨x.hor, x.stops ++ y.stops, x.paths ++ y.paths, x.doors ++ y.doors, x.routes ++ y.routes, x.trips ++ y.trips, x.hazs ++ y.hazs⟩
theorem mem_text (l : List LP) : (∀ p ∈ l, p.Good) → ∀ p ∈ l, p.1 ≠ [] ∧ Lay p.1 p.2 := fun h p hp => h p hp
theorem join_back {x y : SheetD} (hx : checkD x = 0) (hy : checkD y = 0) (hl : longD (joinD x y) = false) (u : ByteArray) (hu : u.data.toList = textL (linesD x ++ (linesD y).drop 1)) (hs : u.size ≤ 65536) : parseS u = (joinD x y, ⟨0, 0, 0⟩) := by
  obtain ⟨g0, g1⟩ := items_lay hx
  obtain ⟨_, g2⟩ := items_lay hy
  have ef : (itemsD x ++ itemsD y).foldl putD { zeroD with hor := x.hor } = joinD x y := by
    rw [List.foldl_append, fold_items, fold_put]
    obtain ⟨e1, e2, e3, e4, e5, e6⟩ := items_of y
    rw [e1, e2, e3, e4, e5, e6]
    rfl
  obtain ⟨hk, he⟩ := lex_text u (horP x.hor :: (itemsD x ++ itemsD y).map ItemD.P) (by
    rw [hu, linesD_items x, linesD_items y]
    simp only [List.drop_succ_cons, List.drop_zero, List.map_cons, List.map_append, List.map_map, List.cons_append]
    rfl) hs (fun q hq => by
    rcases List.mem_cons.1 hq with rfl | hq
    · exact g0
    · obtain ⟨it, hi, rfl⟩ := List.mem_map.1 hq
      rcases List.mem_append.1 hi with hi | hi
      · exact g1 it hi
      · exact g2 it hi)
  have h := parse_keys u x.hor (itemsD x ++ itemsD y) hk he (fun it hi => (List.mem_append.1 hi).elim (items_ok hx it) (items_ok hy it)) (by rw [ef]; exact hl)
  rw [ef] at h
  exact h
/-- Things that are, kind by kind, the sheet's. -/
structure SameI (l : List ItemD) (x : SheetD) : Prop where
  s : stopsI l = x.stops
  p : pathsI l = x.paths
  d : doorsI l = x.doors
  r : routesI l = x.routes
  t : tripsI l = x.trips
  z : hazsI l = x.hazs
theorem SameI.mem {l : List ItemD} {x : SheetD} (h : SameI l x) : ∀ it ∈ l, it ∈ itemsD x := by
  intro it hi
  unfold itemsD
  simp only [List.mem_append, List.mem_map]
  cases it with
  | stop s => exact .inl (.inl (.inl (.inl (.inl ⟨s, by rw [← h.s]; exact List.mem_filterMap.2 ⟨_, hi, rfl⟩, rfl⟩))))
  | path s => exact .inl (.inl (.inl (.inl (.inr ⟨s, by rw [← h.p]; exact List.mem_filterMap.2 ⟨_, hi, rfl⟩, rfl⟩))))
  | door s => exact .inl (.inl (.inl (.inr ⟨s, by rw [← h.d]; exact List.mem_filterMap.2 ⟨_, hi, rfl⟩, rfl⟩)))
  | route s => exact .inl (.inl (.inr ⟨s, by rw [← h.r]; exact List.mem_filterMap.2 ⟨_, hi, rfl⟩, rfl⟩))
  | trip s => exact .inl (.inr ⟨s, by rw [← h.t]; exact List.mem_filterMap.2 ⟨_, hi, rfl⟩, rfl⟩)
  | haz s => exact .inr ⟨s, by rw [← h.z]; exact List.mem_filterMap.2 ⟨_, hi, rfl⟩, rfl⟩
theorem order_back {x : SheetD} (hx : checkD x = 0) (l : List ItemD) (hl : SameI l x) (u : ByteArray) (hu : u.data.toList = joinN (horL x.hor :: l.map fun it => line it.P.1)) (hs : u.size ≤ 65536) : parseS u = (x, ⟨0, 0, 0⟩) := by
  obtain ⟨g0, g1⟩ := items_lay hx
  have ef : l.foldl putD { zeroD with hor := x.hor } = x := by
    rw [fold_put, hl.s, hl.p, hl.d, hl.r, hl.t, hl.z]
    rfl
  obtain ⟨hk, he⟩ := lex_join u (horP x.hor) (l.map ItemD.P) (by rw [hu, List.map_cons, List.map_map]; rfl) hs g0 (fun q hq => by
    obtain ⟨it, hi, rfl⟩ := List.mem_map.1 hq
    exact g1 it (hl.mem it hi))
  have h := parse_keys u x.hor l hk he (fun it hi => items_ok hx it (hl.mem it hi)) (by rw [ef]; exact (check_ok hx).1)
  rw [ef] at h
  exact h
end Go.Proofs.YteonefgbdphmiaaGreatDoor
