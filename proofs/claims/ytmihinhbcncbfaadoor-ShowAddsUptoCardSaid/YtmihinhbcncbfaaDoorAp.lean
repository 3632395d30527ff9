/- ShowAdds: the plain facts. -/
import Derived.Test.YtmihinhbcncbfaaDoorSm0
namespace Go.Proofs.YtmihinhbcncbfaaDoor
open Go.RowKit

theorem any_congr {α : Type} {l m : List α} (h : ∀ a, a ∈ l ↔ a ∈ m) (f : α → Bool) : l.any f = m.any f := by
  apply Bool.eq_iff_iff.2
  rw [List.any_eq_true, List.any_eq_true]
  exact ⟨fun ⟨a, ha, hf⟩ => ⟨a, (h a).1 ha, hf⟩, fun ⟨a, ha, hf⟩ => ⟨a, (h a).2 ha, hf⟩⟩
theorem check_congr {x y : SheetD} (h0 : longD x = longD y) (h1 : ∀ a, a ∈ namesD y ↔ a ∈ namesD x) (h2 : ∀ a, a ∈ numsD y ↔ a ∈ numsD x) (h3 : y.routes = x.routes) : checkD y = checkD x := by
  unfold checkD
  rw [h0, any_congr h1, any_congr h2, h3]
def addT (x : SheetD) (t : TripD) : SheetD := ⟨x.hor, x.stops, x.paths, x.doors, x.routes, x.trips ++ [t], x.hazs⟩
def addS (x : SheetD) (s : List UInt8) : SheetD := ⟨x.hor, x.stops ++ [s], x.paths, x.doors, x.routes, x.trips, x.hazs⟩
theorem check_addT {x : SheetD} {t : TripD} (ht : t ∈ x.trips) (h0 : longD x = longD (addT x t)) : checkD (addT x t) = checkD x := by
  refine check_congr h0 (fun a => ?_) (fun a => ?_) rfl
  · unfold namesD addT
    simp only [List.mem_append, List.mem_flatMap, List.flatMap_append, List.flatMap_cons, List.flatMap_nil, List.append_nil]
    constructor
    · rintro ((h | h | h) | h)
      · exact .inl (.inl h)
      · exact .inl (.inr h)
      · exact .inl (.inr ⟨t, ht, h⟩)
      · exact .inr h
    · rintro ((h | h) | h)
      · exact .inl (.inl h)
      · exact .inl (.inr (.inl h))
      · exact .inr h
  · unfold numsD addT
    simp only [List.mem_append, List.mem_flatMap, List.flatMap_append, List.flatMap_cons, List.flatMap_nil, List.append_nil]
    constructor
    · rintro ((h | h | h) | h)
      · exact .inl (.inl h)
      · exact .inl (.inr h)
      · exact .inl (.inr ⟨t, ht, h⟩)
      · exact .inr h
    · rintro ((h | h) | h)
      · exact .inl (.inl h)
      · exact .inl (.inr (.inl h))
      · exact .inr h
theorem check_addS {x : SheetD} {s : List UInt8} (hs : s ∈ x.stops) (h0 : longD x = longD (addS x s)) : checkD (addS x s) = checkD x := by
  refine check_congr h0 (fun a => ?_) (fun a => Iff.rfl) rfl
  unfold namesD addS
  simp only [List.mem_append, List.mem_cons, List.not_mem_nil, or_false]
  constructor
  · rintro ((((((h | rfl) | h) | h) | h) | h) | h)
    · exact .inl (.inl (.inl (.inl (.inl h))))
    · exact .inl (.inl (.inl (.inl (.inl hs))))
    · exact .inl (.inl (.inl (.inl (.inr h))))
    · exact .inl (.inl (.inl (.inr h)))
    · exact .inl (.inl (.inr h))
    · exact .inl (.inr h)
    · exact .inr h
  · rintro (((((h | h) | h) | h) | h) | h)
    · exact .inl (.inl (.inl (.inl (.inl (.inl h)))))
    · exact .inl (.inl (.inl (.inl (.inr h))))
    · exact .inl (.inl (.inl (.inr h)))
    · exact .inl (.inl (.inr h))
    · exact .inl (.inr h)
    · exact .inr h
theorem split_at {α : Type} {L A B : List α} {p : Nat} {e : α} (h : L = A ++ B) (hp : A.length = p) : p ≤ L.length ∧ A ++ [e] ++ B = L.take p ++ [e] ++ L.drop p := by
  subst h hp
  rw [List.take_left, List.drop_left, List.length_append]
  exact ⟨by omega, rfl⟩
theorem lines_addT (x : SheetD) (t : TripD) : (1 + x.stops.length + x.paths.length + x.doors.length + x.routes.length + x.trips.length) ≤ (linesD x).length ∧ linesD (addT x t) = (linesD x).take (1 + x.stops.length + x.paths.length + x.doors.length + x.routes.length + x.trips.length) ++ [tripL t] ++ (linesD x).drop (1 + x.stops.length + x.paths.length + x.doors.length + x.routes.length + x.trips.length) := by
  have h := split_at (L := linesD x) (A := [horL x.hor] ++ x.stops.map stopL ++ x.paths.map pathL ++ x.doors.map doorL ++ x.routes.map routeL ++ x.trips.map tripL) (B := x.hazs.map hazL) (p := 1 + x.stops.length + x.paths.length + x.doors.length + x.routes.length + x.trips.length) (e := tripL t) rfl (by simp; omega)
  refine ⟨h.1, ?_⟩
  rw [← h.2]
  unfold linesD addT
  simp [List.append_assoc]
theorem lines_addS (x : SheetD) (s : List UInt8) : (1 + x.stops.length) ≤ (linesD x).length ∧ linesD (addS x s) = (linesD x).take (1 + x.stops.length) ++ [stopL s] ++ (linesD x).drop (1 + x.stops.length) := by
  have h := split_at (L := linesD x) (A := [horL x.hor] ++ x.stops.map stopL) (B := x.paths.map pathL ++ x.doors.map doorL ++ x.routes.map routeL ++ x.trips.map tripL ++ x.hazs.map hazL) (p := 1 + x.stops.length) (e := stopL s) (by unfold linesD; simp [List.append_assoc]) (by simp; omega)
  refine ⟨h.1, ?_⟩
  rw [← h.2]
  unfold linesD addS
  simp [List.append_assoc]
theorem stopL_eq (s : List UInt8) : stopL s = [115, 116, 111, 112, 32] ++ s := by
  unfold stopL line
  simp [Wd.t, kStop]
/-- What stands behind the first part of ShowAdds: a sheet with one thing more, its place and its line. -/
structure Added (x y : SheetM) (pl : Nat) (ln : List UInt8) : Prop where
  few : y.Few
  long : longD y.d = false
  names : ∀ s ∈ namesD y.d, s.length ≤ maxLen
  check : checkD y.d = checkD x.d
  le : pl ≤ (linesD x.d).length
  lines : linesD y.d = (linesD x.d).take pl ++ [ln] ++ (linesD x.d).drop pl
theorem added_of {x y : SheetM} {pl : Nat} {ln : List UInt8} (hx : lightD x.d 60 = true) (hn : ∀ s ∈ namesD x.d, s.length ≤ maxLen) (hy : (∃ t ∈ x.trips, y.d = addT x.d t ∧ ln = tripL t ∧ pl = 1 + x.stops.length + x.paths.length + x.doors.length + x.routes.length + x.trips.length) ∨ ∃ s ∈ x.stops, y.d = addS x.d s ∧ ln = stopL s ∧ pl = 1 + x.stops.length) : Added x y pl ln := by
  obtain ⟨⟨h1, h2, h3, h4, h5, h6⟩, h7⟩ := light_parts hx
  have hl := light_long hx
  have e : x.d.routes.length = x.routes.length := by simp [SheetM.d]
  have each : y.d.routes = x.d.routes → ∀ r ∈ y.routes, r.stops.length ≤ 1000 ∧ r.rides.length ≤ 1000 ∧ r.stays.length ≤ 1000 := by
    intro hr r hry
    have hm : r.d ∈ x.d.routes := by rw [← hr]; exact List.mem_map_of_mem hry
    obtain ⟨r2, hr2, e2⟩ := List.mem_map.1 hm
    have := h7 r2 hr2
    have f1 := congrArg (fun q => q.stops.length) e2
    have f2 := congrArg (fun q => q.rides.length) e2
    have f3 := congrArg (fun q => q.stays.length) e2
    simp only [RouteM.d] at f1 f2 f3
    omega
  have names : ∀ (hm : ∀ a, a ∈ namesD y.d → a ∈ namesD x.d), ∀ s ∈ namesD y.d, s.length ≤ maxLen := fun hm s hs => hn s (hm s hs)
  have len : y.d.routes.length = y.routes.length := by simp [SheetM.d]
  rcases hy with ⟨t, ht, hd, rfl, rfl⟩ | ⟨s, hs, hd, rfl, rfl⟩
  · have a1 : y.stops = x.stops := congrArg SheetD.stops hd
    have a2 : y.paths = x.paths := congrArg SheetD.paths hd
    have a3 : y.doors = x.doors := congrArg SheetD.doors hd
    have a4 : y.d.routes = x.d.routes := by rw [hd]; rfl
    have a5 : y.trips = x.trips ++ [t] := congrArg SheetD.trips hd
    have a6 : y.hazs = x.hazs := congrArg SheetD.hazs hd
    have hly : longD y.d = false := by
      unfold longD
      rw [len, show y.routes.length = x.routes.length by rw [← len, a4, e]]
      exact decide_eq_false (by simp only [SheetM.d]; rw [a1, a2, a3, a5, a6, List.length_append]; simp only [List.length_cons, List.length_nil]; omega)
    have h0 : longD x.d = longD (addT x.d t) := by rw [hl, ← hd, hly]
    have hchk := check_addT (x := x.d) ht h0
    have hll := lines_addT x.d t
    rw [e] at hll
    refine ⟨⟨by rw [a1]; omega, by rw [a2]; omega, by rw [a3]; omega, by rw [← len, a4, e]; omega, by rw [a5, List.length_append]; simp only [List.length_cons, List.length_nil]; omega, by rw [a6]; omega, each a4⟩, hly, names (fun a ha => ?_), by rw [hd]; exact hchk, hll.1, by rw [hd]; exact hll.2⟩
    rw [hd] at ha
    unfold namesD addT at ha
    simp only [List.mem_append, List.mem_flatMap, List.flatMap_append, List.flatMap_cons, List.flatMap_nil, List.append_nil] at ha
    unfold namesD
    simp only [List.mem_append, List.mem_flatMap]
    rcases ha with (h | h | h) | h
    · exact .inl (.inl h)
    · exact .inl (.inr h)
    · exact .inl (.inr ⟨t, ht, h⟩)
    · exact .inr h
  · have a1 : y.stops = x.stops ++ [s] := congrArg SheetD.stops hd
    have a2 : y.paths = x.paths := congrArg SheetD.paths hd
    have a3 : y.doors = x.doors := congrArg SheetD.doors hd
    have a4 : y.d.routes = x.d.routes := by rw [hd]; rfl
    have a5 : y.trips = x.trips := congrArg SheetD.trips hd
    have a6 : y.hazs = x.hazs := congrArg SheetD.hazs hd
    have hly : longD y.d = false := by
      unfold longD
      rw [len, show y.routes.length = x.routes.length by rw [← len, a4, e]]
      exact decide_eq_false (by simp only [SheetM.d]; rw [a1, a2, a3, a5, a6, List.length_append]; simp only [List.length_cons, List.length_nil]; omega)
    have h0 : longD x.d = longD (addS x.d s) := by rw [hl, ← hd, hly]
    have hchk := check_addS (x := x.d) hs h0
    have hll := lines_addS x.d s
    refine ⟨⟨by rw [a1, List.length_append]; simp only [List.length_cons, List.length_nil]; omega, by rw [a2]; omega, by rw [a3]; omega, by rw [← len, a4, e]; omega, by rw [a5]; omega, by rw [a6]; omega, each a4⟩, hly, names (fun a ha => ?_), by rw [hd]; exact hchk, hll.1, by rw [hd]; exact hll.2⟩
    rw [hd] at ha
    unfold namesD addS at ha
    simp only [List.mem_append, List.mem_cons, List.not_mem_nil, or_false] at ha
    unfold namesD
    simp only [List.mem_append]
    rcases ha with (((((h | rfl) | h) | h) | h) | h) | h
    · exact .inl (.inl (.inl (.inl (.inl h))))
    · exact .inl (.inl (.inl (.inl (.inl hs))))
    · exact .inl (.inl (.inl (.inl (.inr h))))
    · exact .inl (.inl (.inl (.inr h)))
    · exact .inl (.inl (.inr h))
    · exact .inl (.inr h)
    · exact .inr h
end Go.Proofs.YtmihinhbcncbfaaDoor
