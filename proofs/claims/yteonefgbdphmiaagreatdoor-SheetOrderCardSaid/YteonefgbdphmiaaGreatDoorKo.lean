/- Plain: things picked kind by kind (SheetOrder). -/
import Derived.Test.YteonefgbdphmiaaGreatDoorKb
namespace Go.Proofs.YteonefgbdphmiaaGreatDoor
open Go.RowKit
def kd : ItemD → Nat
  | .stop _ => 0
  | .path _ => 1
  | .door _ => 2
  | .route _ => 3
  | .trip _ => 4
  | .haz _ => 5
def KI (x : SheetD) : Nat → List ItemD
  | 0 => x.stops.map .stop
  | 1 => x.paths.map .path
  | 2 => x.doors.map .door
  | 3 => x.routes.map .route
  | 4 => x.trips.map .trip
  | _ => x.hazs.map .haz
def cn (x : SheetD) (k : Nat) : Nat := (KI x k).length
/-- Things ahead of a kind. -/
def pre (x : SheetD) : Nat → Nat
  | 0 => 0
  | 1 => cn x 0
  | 2 => cn x 0 + cn x 1
  | 3 => cn x 0 + cn x 1 + cn x 2
  | 4 => cn x 0 + cn x 1 + cn x 2 + cn x 3
  | _ => cn x 0 + cn x 1 + cn x 2 + cn x 3 + cn x 4
def sum6 (f : Nat → Nat) : Nat := f 0 + f 1 + f 2 + f 3 + f 4 + f 5
def upd (f : Nat → Nat) (k : Nat) (j : Nat) : Nat := if j = k then f j + 1 else f j
theorem lt6 {k : Nat} (h : k < 6) : k = 0 ∨ k = 1 ∨ k = 2 ∨ k = 3 ∨ k = 4 ∨ k = 5 := by omega
theorem items_KI (x : SheetD) : itemsD x = KI x 0 ++ KI x 1 ++ KI x 2 ++ KI x 3 ++ KI x 4 ++ KI x 5 := rfl
theorem total_KI (x : SheetD) : sum6 (cn x) = thingsD x := by
  rw [← items_len, items_KI]
  simp only [List.length_append, sum6, cn]
theorem kd_KI {x : SheetD} {k : Nat} (hk : k < 6) : ∀ it ∈ KI x k, kd it = k := by
  intro it hi
  rcases lt6 hk with rfl | rfl | rfl | rfl | rfl | rfl <;>
    · obtain ⟨a, _, rfl⟩ := List.mem_map.1 hi
      rfl
theorem at_KI (x : SheetD) {k n : Nat} (hk : k < 6) (hn : n < cn x k) : (itemsD x)[pre x k + n]? = some ((KI x k)[n]'hn) := by
  have key : ∀ (a b c : List ItemD) (m : Nat) (h : m < b.length), ((a ++ b) ++ c)[a.length + m]? = some b[m] := by
    intro a b c m h
    rw [List.getElem?_append_left (by rw [List.length_append]; omega), List.getElem?_append_right (by omega), Nat.add_sub_cancel_left, List.getElem?_eq_getElem h]
  rw [items_KI]
  rcases lt6 hk with rfl | rfl | rfl | rfl | rfl | rfl
  · have h := key [] (KI x 0) (KI x 1 ++ KI x 2 ++ KI x 3 ++ KI x 4 ++ KI x 5) n hn
    simpa [pre] using h
  · have h := key (KI x 0) (KI x 1) (KI x 2 ++ KI x 3 ++ KI x 4 ++ KI x 5) n hn
    simpa [pre, cn] using h
  · have h := key (KI x 0 ++ KI x 1) (KI x 2) (KI x 3 ++ KI x 4 ++ KI x 5) n hn
    simpa [pre, cn, Nat.add_assoc] using h
  · have h := key (KI x 0 ++ KI x 1 ++ KI x 2) (KI x 3) (KI x 4 ++ KI x 5) n hn
    simpa [pre, cn, Nat.add_assoc] using h
  · have h := key (KI x 0 ++ KI x 1 ++ KI x 2 ++ KI x 3) (KI x 4) (KI x 5) n hn
    simpa [pre, cn, Nat.add_assoc] using h
  · have h := key (KI x 0 ++ KI x 1 ++ KI x 2 ++ KI x 3 ++ KI x 4) (KI x 5) [] n hn
    simpa [pre, cn, Nat.add_assoc] using h
theorem line_at (x : SheetD) {k n : Nat} (hk : k < 6) (hn : n < cn x k) : (linesD x)[1 + pre x k + n]? = some (line ((KI x k)[n]'hn).P.1) := by
  rw [linesD_items, show 1 + pre x k + n = (pre x k + n) + 1 by omega, List.getElem?_cons_succ, List.getElem?_map, at_KI x hk hn]
  rfl
/-- What has been picked so far: the first ones of each kind, in their order. -/
structure Sel (x : SheetD) (nx : Nat → Nat) (its : List ItemD) : Prop where
  each : ∀ k, k < 6 → its.filter (fun it => kd it == k) = (KI x k).take (nx k)
  le : ∀ k, k < 6 → nx k ≤ cn x k
  len : its.length = sum6 nx
  mem : ∀ it ∈ its, it ∈ itemsD x
theorem Sel.zero (x : SheetD) : Sel x (fun _ => 0) [] := ⟨fun _ _ => rfl, fun _ _ => Nat.zero_le _, rfl, fun it h => by cases h⟩
theorem Sel.step {x : SheetD} {nx : Nat → Nat} {its : List ItemD} (h : Sel x nx its) {k : Nat} (hk : k < 6) (hn : nx k < cn x k) : Sel x (upd nx k) (its ++ [(KI x k)[nx k]'hn]) := by
  have hkd := kd_KI hk _ (List.getElem_mem hn)
  refine ⟨fun j hj => ?_, fun j hj => ?_, ?_, fun it hi => ?_⟩
  · rw [List.filter_append, h.each j hj, List.filter_cons, List.filter_nil, hkd]
    unfold upd
    by_cases hjk : j = k
    · subst hjk
      rw [if_pos rfl, if_pos (by simp), take_succ_eq _ _ hn]
    · rw [if_neg hjk, if_neg (by simpa using fun e => hjk e.symm), List.append_nil]
  · unfold upd
    split
    · rename_i e; subst e; exact hn
    · exact h.le j hj
  · rw [List.length_append, h.len, List.length_singleton]
    unfold sum6 upd
    rcases lt6 hk with rfl | rfl | rfl | rfl | rfl | rfl <;> simp <;> omega
  · rcases List.mem_append.1 hi with hi | hi
    · exact h.mem it hi
    · rw [List.mem_singleton] at hi
      subst hi
      exact List.mem_of_getElem? (at_KI x hk hn)
/-- Someone is left. -/
theorem Sel.left {x : SheetD} {nx : Nat → Nat} {its : List ItemD} (h : Sel x nx its) (hlt : its.length < thingsD x) : ∃ k, k < 6 ∧ nx k ≠ cn x k := by
  by_cases h0 : nx 0 = cn x 0
  · by_cases h1 : nx 1 = cn x 1
    · by_cases h2 : nx 2 = cn x 2
      · by_cases h3 : nx 3 = cn x 3
        · by_cases h4 : nx 4 = cn x 4
          · refine ⟨5, by omega, fun h5 => ?_⟩
            have h6 := h.len
            rw [← total_KI] at hlt
            unfold sum6 at h6 hlt
            omega
          · exact ⟨4, by omega, h4⟩
        · exact ⟨3, by omega, h3⟩
      · exact ⟨2, by omega, h2⟩
    · exact ⟨1, by omega, h1⟩
  · exact ⟨0, by omega, h0⟩
theorem Sel.full {x : SheetD} {nx : Nat → Nat} {its : List ItemD} (h : Sel x nx its) (hlt : its.length = thingsD x) : ∀ k, k < 6 → nx k = cn x k := by
  have h6 := h.len
  rw [hlt, ← total_KI] at h6
  unfold sum6 at h6
  have a0 := h.le 0 (by omega)
  have a1 := h.le 1 (by omega)
  have a2 := h.le 2 (by omega)
  have a3 := h.le 3 (by omega)
  have a4 := h.le 4 (by omega)
  have a5 := h.le 5 (by omega)
  intro k hk
  rcases lt6 hk with rfl | rfl | rfl | rfl | rfl | rfl <;> omega
theorem fm_filter {α : Type} (g : ItemD → Option α) (k : Nat) (hg : ∀ it, kd it ≠ k → g it = none) (l : List ItemD) : (l.filter (fun it => kd it == k)).filterMap g = l.filterMap g := by
  induction l with
  | nil => rfl
  | cons a r ih =>
    rw [List.filter_cons]
    by_cases h : kd a = k
    · rw [if_pos (by simpa using h), List.filterMap_cons, List.filterMap_cons, ih]
    · rw [if_neg (by simpa using h), ih, List.filterMap_cons, hg a h]
theorem Sel.same {x : SheetD} {nx : Nat → Nat} {its : List ItemD} (h : Sel x nx its) (hlt : its.length = thingsD x) : SameI its x := by
  have hf : ∀ k, k < 6 → its.filter (fun it => kd it == k) = KI x k := fun k hk => by
    rw [h.each k hk, h.full hlt k hk]
    exact List.take_of_length_le (Nat.le_refl _)
  obtain ⟨e1, e2, e3, e4, e5, e6⟩ := items_of x
  refine ⟨?_, ?_, ?_, ?_, ?_, ?_⟩
  · unfold stopsI; rw [← fm_filter _ 0 (fun it hi => by cases it <;> first | rfl | exact absurd rfl hi), hf 0 (by omega)]; exact fm_map_some _ _ _ fun _ => rfl
  · unfold pathsI; rw [← fm_filter _ 1 (fun it hi => by cases it <;> first | rfl | exact absurd rfl hi), hf 1 (by omega)]; exact fm_map_some _ _ _ fun _ => rfl
  · unfold doorsI; rw [← fm_filter _ 2 (fun it hi => by cases it <;> first | rfl | exact absurd rfl hi), hf 2 (by omega)]; exact fm_map_some _ _ _ fun _ => rfl
  · unfold routesI; rw [← fm_filter _ 3 (fun it hi => by cases it <;> first | rfl | exact absurd rfl hi), hf 3 (by omega)]; exact fm_map_some _ _ _ fun _ => rfl
  · unfold tripsI; rw [← fm_filter _ 4 (fun it hi => by cases it <;> first | rfl | exact absurd rfl hi), hf 4 (by omega)]; exact fm_map_some _ _ _ fun _ => rfl
  · unfold hazsI; rw [← fm_filter _ 5 (fun it hi => by cases it <;> first | rfl | exact absurd rfl hi), hf 5 (by omega)]; exact fm_map_some _ _ _ fun _ => rfl
/-- The text so far. -/
def TO (x : SheetD) (its : List ItemD) : List UInt8 := joinN (horL x.hor :: its.map fun it => line it.P.1)
theorem to_step (x : SheetD) (its : List ItemD) (it : ItemD) : ba (TO x its) ++ ⟨#[10]⟩ ++ ba (line it.P.1) = ba (TO x (its ++ [it])) := by
  rw [cZ [10], ba_appZ, ba_appZ]
  congr 1
  simp [TO, joinN]
theorem to_small {x : SheetM} (hc : checkD x.d = 0) (its : List ItemD) (hm : ∀ it ∈ its, it ∈ itemsD x.d) (hl : its.length ≤ 6200) : (ba (TO x.d its)).size ≤ 24810201 := by
  have hD := linesD_le x hc
  have e := linesD_items x.d
  have h0 : (horL x.d.hor).length ≤ 4000 := hD _ (by rw [e]; exact List.mem_cons_self ..)
  have h1 : ∀ it ∈ its, (line it.P.1).length ≤ 4000 := fun it hi => hD _ (by rw [e]; exact List.mem_cons_of_mem _ (List.mem_map_of_mem (f := fun p : ItemD => line p.P.1) (hm it hi)))
  have h2 : ∀ l : List ItemD, (∀ it ∈ l, (line it.P.1).length ≤ 4000) → ((l.map fun it => line it.P.1).flatMap fun z => 10 :: z).length ≤ l.length * 4001 := by
    intro l
    induction l with
    | nil => intro _; simp
    | cons a r ih =>
      intro h
      have k1 := h a (by simp)
      have k2 := ih fun it hi => h it (by simp [hi])
      rw [List.map_cons, List.flatMap_cons, List.length_append, List.length_cons, List.length_cons, Nat.add_mul]
      omega
  have h3 := h2 its h1
  have h4 : its.length * 4001 ≤ 6200 * 4001 := Nat.mul_le_mul_right _ hl
  rw [ba_size]
  show (horL x.d.hor ++ (its.map fun it => line it.P.1).flatMap fun z => 10 :: z).length ≤ _
  rw [List.length_append]
  omega
end Go.Proofs.YteonefgbdphmiaaGreatDoor
