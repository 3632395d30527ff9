/- Which sheets may be: plain words; what follows for the lengths of lines. -/
import Derived.Test.YtmihinhbcncbfaaGreatDoorSr
import Derived.Lib.ItoaLen
namespace Go.Proofs.YtmihinhbcncbfaaGreatDoor
open Go.RowKit

def namesD (x : SheetD) : Nms :=
  x.stops ++ x.paths.flatMap (fun p => [p.name, p.a, p.b]) ++ x.doors.flatMap (fun p => [p.name, p.a, p.b]) ++ x.routes.flatMap (fun r => [r.name] ++ r.stops) ++ x.trips.flatMap (fun t => [t.name, t.route]) ++ x.hazs.flatMap (fun h => [h.name, h.on])
def timesN (t : TimesD) : List Int := [t.start, t.every, t.len]
def numsD (x : SheetD) : List Int :=
  [x.hor] ++ x.paths.flatMap (fun p => [p.len]) ++ x.doors.flatMap (fun p => [p.len] ++ timesN p.times) ++ x.routes.flatMap (fun r => r.rides ++ r.stays) ++ x.trips.flatMap (fun t => [t.start, t.every, t.stop]) ++ x.hazs.flatMap (fun h => timesN h.times)
def okN (n : Int) : Bool := decide (0 ≤ n ∧ n ≤ 1099511627776)
def okR (r : RouteD) : Bool := decide (2 ≤ r.stops.length ∧ r.stops.length ≤ 32 ∧ r.rides.length + 1 = r.stops.length ∧ r.stays.length + 2 = r.stops.length)
def longD (x : SheetD) : Bool := decide (256 < x.stops.length ∨ 1024 < x.paths.length ∨ 256 < x.doors.length ∨ 256 < x.routes.length ∨ 1024 < x.trips.length ∨ 256 < x.hazs.length)
/-- What sheet.Check tells. -/
def checkD (x : SheetD) : Int :=
  if longD x = true then 3 else if (namesD x).any (fun s => !Nm.name s) = true then 7 else if (numsD x).any (fun n => !okN n) = true then 9 else if x.routes.any (fun r => !okR r) = true then 2 else 0
theorem any_not {α : Type} {l : List α} {p : α → Bool} (h : ¬ (l.any fun a => !p a) = true) : ∀ a ∈ l, p a = true := by
  intro a ha
  rcases hp : p a with _ | _
  · exact absurd (List.any_eq_true.2 ⟨a, ha, by rw [hp]; rfl⟩) h
  · rfl
theorem check_ok {x : SheetD} (h : checkD x = 0) : longD x = false ∧ (∀ s ∈ namesD x, Nm.name s = true) ∧ (∀ n ∈ numsD x, okN n = true) ∧ ∀ r ∈ x.routes, okR r = true := by
  unfold checkD at h
  by_cases h1 : longD x = true
  · rw [if_pos h1] at h; cases h
  rw [if_neg h1] at h
  by_cases h2 : (namesD x).any (fun s => !Nm.name s) = true
  · rw [if_pos h2] at h; cases h
  rw [if_neg h2] at h
  by_cases h3 : (numsD x).any (fun n => !okN n) = true
  · rw [if_pos h3] at h; cases h
  rw [if_neg h3] at h
  by_cases h4 : x.routes.any (fun r => !okR r) = true
  · rw [if_pos h4] at h; cases h
  exact ⟨by simpa using h1, any_not h2, any_not h3, any_not h4⟩
theorem okN_i64 {n : Int} (h : okN n = true) : I64 n := by
  unfold okN at h
  rw [decide_eq_true_eq] at h
  exact ⟨by omega, by omega⟩
theorem line_le (ws : List Wd) (m : Nat) (h : ∀ y ∈ ws, y.t.length ≤ m) : (line ws).length ≤ (m + 1) * ws.length := by
  cases ws with
  | nil => simp [line]
  | cons x r =>
    have hx := h x (List.mem_cons_self ..)
    have hr : (r.flatMap fun y => 32 :: y.t).length ≤ (m + 1) * r.length := by
      clear hx
      induction r with
      | nil => simp
      | cons y r ih =>
        have hy := h y (by simp)
        have := ih (fun z hz => h z (by rcases List.mem_cons.1 hz with rfl | hz <;> simp [*]))
        rw [List.flatMap_cons, List.length_append, List.length_cons, List.length_cons, Nat.mul_add]
        omega
    unfold line
    rw [List.length_append, List.length_cons, Nat.mul_add]
    omega
theorem dec_le {n : Int} (h : I64 n) : (Wd.n n).t.length ≤ 24 := by
  have := Lib.itoa_length_le n h.1 h.2
  show (Lib.itoa n).length ≤ 24
  omega
theorem name_le {s : List UInt8} (h : Nm.name s = true) : (Wd.s s).t.length ≤ 24 := (Nm.name_len h).2
theorem timesL_le {t : TimesD} {k : List UInt8} (h : t.Fit) (hk : k.length ≤ 24) : (timesL t k).length ≤ 150 := by
  refine line_le (timesW t k) 24 ?_
  unfold timesW
  intro y hy
  simp only [List.mem_cons, List.not_mem_nil, or_false] at hy
  rcases hy with rfl | rfl | rfl | rfl | rfl | rfl
  · decide
  · exact dec_le h.1
  · decide
  · exact dec_le h.2.1
  · exact hk
  · exact dec_le h.2.2
/-- What the walks ask of a sheet whose lines are told. -/
structure FineB (B : Nat) (x : SheetM) : Prop where
  hor : I64 x.hor
  stops : ∀ s ∈ x.stops, (stopL s).length ≤ B
  paths : ∀ p ∈ x.paths, I64 p.len ∧ (pathL p).length ≤ B
  doors : ∀ p ∈ x.doors, (I64 p.len ∧ p.times.Fit) ∧ (doorL p).length ≤ B ∧ (timesL p.times kOpen).length ≤ B
  routes : ∀ r ∈ x.routes, r.d.Fit ∧ r.stops.length ≤ 1000 ∧ (routeL r.d).length ≤ B
  trips : ∀ t ∈ x.trips, (I64 t.start ∧ I64 t.every ∧ I64 t.stop) ∧ (tripL t).length ≤ B
  hazs : ∀ h ∈ x.hazs, h.times.Fit ∧ (hazL h).length ≤ B ∧ (timesL h.times kClosed).length ≤ B
abbrev Fine (x : SheetM) : Prop := FineB 140737488355328 x
theorem FineB.mono {B C : Nat} {x : SheetM} (h : FineB B x) (k : B ≤ C) : FineB C x :=
  ⟨h.hor, fun s hs => Nat.le_trans (h.stops s hs) k, fun p hp => ⟨(h.paths p hp).1, Nat.le_trans (h.paths p hp).2 k⟩, fun p hp => ⟨(h.doors p hp).1, Nat.le_trans (h.doors p hp).2.1 k, Nat.le_trans (h.doors p hp).2.2 k⟩, fun r hr => ⟨(h.routes r hr).1, (h.routes r hr).2.1, Nat.le_trans (h.routes r hr).2.2 k⟩, fun t ht => ⟨(h.trips t ht).1, Nat.le_trans (h.trips t ht).2 k⟩, fun t ht => ⟨(h.hazs t ht).1, Nat.le_trans (h.hazs t ht).2.1 k, Nat.le_trans (h.hazs t ht).2.2 k⟩⟩
theorem in_names {x : SheetD} {s : List UInt8} (h : s ∈ x.stops ∨ (∃ p ∈ x.paths, s ∈ [p.name, p.a, p.b]) ∨ (∃ p ∈ x.doors, s ∈ [p.name, p.a, p.b]) ∨ (∃ r ∈ x.routes, s ∈ [r.name] ++ r.stops) ∨ (∃ t ∈ x.trips, s ∈ [t.name, t.route]) ∨ ∃ t ∈ x.hazs, s ∈ [t.name, t.on]) : s ∈ namesD x := by
  unfold namesD
  simp only [List.mem_append, List.mem_flatMap]
  simp only [List.mem_append] at h
  rcases h with h | h | h | h | h | h
  · exact .inl (.inl (.inl (.inl (.inl h))))
  · exact .inl (.inl (.inl (.inl (.inr h))))
  · exact .inl (.inl (.inl (.inr h)))
  · exact .inl (.inl (.inr h))
  · exact .inl (.inr h)
  · exact .inr h
theorem in_nums {x : SheetD} {n : Int} (h : n = x.hor ∨ (∃ p ∈ x.paths, n ∈ [p.len]) ∨ (∃ p ∈ x.doors, n ∈ [p.len] ++ timesN p.times) ∨ (∃ r ∈ x.routes, n ∈ r.rides ++ r.stays) ∨ (∃ t ∈ x.trips, n ∈ [t.start, t.every, t.stop]) ∨ ∃ t ∈ x.hazs, n ∈ timesN t.times) : n ∈ numsD x := by
  unfold numsD
  simp only [List.mem_append, List.mem_flatMap, List.mem_cons, List.not_mem_nil, or_false]
  simp only [List.mem_append, List.mem_cons, List.not_mem_nil, or_false] at h
  rcases h with h | h | h | h | h | h
  · exact .inl (.inl (.inl (.inl (.inl h))))
  · exact .inl (.inl (.inl (.inl (.inr h))))
  · exact .inl (.inl (.inl (.inr h)))
  · exact .inl (.inl (.inr h))
  · exact .inl (.inr h)
  · exact .inr h
theorem fit_of {t : TimesD} (h : ∀ n ∈ timesN t, okN n = true) : t.Fit :=
  ⟨okN_i64 (h _ (by simp [timesN])), okN_i64 (h _ (by simp [timesN])), okN_i64 (h _ (by simp [timesN]))⟩
theorem fineB_of (x : SheetM) (h : checkD x.d = 0) : FineB 4000 x := by
  obtain ⟨_, hn, hi, hr⟩ := check_ok h
  refine ⟨okN_i64 (hi _ (in_nums (.inl rfl))), fun s hs => ?_, fun p hp => ?_, fun p hp => ?_, fun r hr2 => ?_, fun t ht => ?_, fun t ht => ?_⟩
  · have h1 := name_le (hn _ (in_names (.inl hs)))
    refine Nat.le_trans (line_le _ 24 ?_) (by show 25 * 2 ≤ _; decide)
    intro y hy
    simp only [List.mem_cons, List.not_mem_nil, or_false] at hy
    rcases hy with rfl | rfl
    · decide
    · exact h1
  · have h1 := fun s hs => name_le (hn s (in_names (.inr (.inl ⟨p, hp, hs⟩))))
    have h2 := okN_i64 (hi _ (in_nums (.inr (.inl ⟨p, hp, List.mem_cons_self ..⟩))))
    refine ⟨h2, Nat.le_trans (line_le (pathW p) 24 ?_) (by show 25 * 5 ≤ _; decide)⟩
    unfold pathW
    intro y hy
    simp only [List.mem_cons, List.not_mem_nil, or_false] at hy
    rcases hy with rfl | rfl | rfl | rfl | rfl
    · decide
    · exact h1 _ (by simp)
    · exact h1 _ (by simp)
    · exact h1 _ (by simp)
    · exact dec_le h2
  · have h1 := fun s hs => name_le (hn s (in_names (.inr (.inr (.inl ⟨p, hp, hs⟩)))))
    have h3 := fun n hn => hi n (in_nums (.inr (.inr (.inl ⟨p, hp, hn⟩))))
    have h2 := okN_i64 (h3 p.len (by simp))
    have hf : p.times.Fit := fit_of fun n hn => h3 n (by simp [hn])
    have ht := timesL_le (k := kOpen) hf (by decide)
    refine ⟨⟨h2, hf⟩, Nat.le_trans (line_le (doorW p) 150 ?_) (by show 151 * 6 ≤ _; decide), by omega⟩
    unfold doorW
    intro y hy
    simp only [List.mem_cons, List.not_mem_nil, or_false] at hy
    rcases hy with rfl | rfl | rfl | rfl | rfl | rfl
    · decide
    · exact Nat.le_trans (h1 _ (by simp)) (by decide)
    · exact Nat.le_trans (h1 _ (by simp)) (by decide)
    · exact Nat.le_trans (h1 _ (by simp)) (by decide)
    · exact Nat.le_trans (dec_le h2) (by decide)
    · exact ht
  · have hm : r.d ∈ x.d.routes := List.mem_map_of_mem hr2
    have h1 := fun s hs => name_le (hn s (in_names (.inr (.inr (.inr (.inl ⟨r.d, hm, hs⟩))))))
    have h3 := fun n hn => hi n (in_nums (.inr (.inr (.inr (.inl ⟨r.d, hm, hn⟩)))))
    have hk := hr _ hm
    unfold okR at hk
    rw [decide_eq_true_eq] at hk
    have hf : r.d.Fit := ⟨fun n hn => okN_i64 (h3 n (by simp [hn])), fun n hn => okN_i64 (h3 n (by simp [hn]))⟩
    have hs : r.stops.length ≤ 32 := hk.2.1
    refine ⟨hf, by omega, ?_⟩
    have hl : ∀ y ∈ routeW r.d, y.t.length ≤ 24 := by
      have key : ∀ k, k ≤ r.d.stops.length → ∀ y ∈ preW r.d k, y.t.length ≤ 24 := by
        intro k
        induction k with
        | zero =>
          intro _ y hy
          simp [preW] at hy
          rcases hy with rfl | rfl
          · decide
          · exact h1 _ (by simp)
        | succ k ih =>
          intro hk y hy
          rw [preW_succ] at hy
          simp only [List.mem_append, List.mem_cons, List.not_mem_nil, or_false] at hy
          rcases hy with ((hy | hy) | rfl) | hy
          · exact ih (by omega) y hy
          · unfold rideW at hy
            split at hy
            · rename_i hc
              simp at hy
              subst hy
              exact dec_le (hf.rides _ (getD_mem hc.2))
            · cases hy
          · exact h1 _ (by simp only [List.mem_append]; exact .inr (getD_mem (by omega)))
          · unfold stayW at hy
            split at hy
            · rename_i hc
              simp at hy
              rcases hy with rfl | rfl
              · decide
              · exact dec_le (hf.stays _ (getD_mem hc.2.1))
            · cases hy
      exact key _ (Nat.le_refl _)
    have h5 := line_le _ 24 hl
    have h6 := preW_len r.d r.d.stops.length
    have h7 : r.d.stops.length ≤ 32 := hs
    have h8 : (routeW r.d).length ≤ 130 := by show (preW r.d r.d.stops.length).length ≤ 130; omega
    show (line (routeW r.d)).length ≤ _
    have : (24 + 1) * (routeW r.d).length ≤ 25 * 130 := Nat.mul_le_mul_left _ h8
    omega
  · have h1 := fun s hs => name_le (hn s (in_names (.inr (.inr (.inr (.inr (.inl ⟨t, ht, hs⟩)))))))
    have h3 := fun n hn => okN_i64 (hi n (in_nums (.inr (.inr (.inr (.inr (.inl ⟨t, ht, hn⟩)))))))
    refine ⟨⟨h3 _ (by simp), h3 _ (by simp), h3 _ (by simp)⟩, Nat.le_trans (line_le (tripW t) 24 ?_) (by show 25 * 10 ≤ _; decide)⟩
    unfold tripW
    intro y hy
    simp only [List.mem_cons, List.not_mem_nil, or_false] at hy
    rcases hy with rfl | rfl | rfl | rfl | rfl | rfl | rfl | rfl | rfl | rfl <;> first | decide | exact h1 t.name (by simp) | exact h1 t.route (by simp) | exact dec_le (h3 t.start (by simp)) | exact dec_le (h3 t.every (by simp)) | exact dec_le (h3 t.stop (by simp))
  · have h1 := fun s hs => name_le (hn s (in_names (.inr (.inr (.inr (.inr (.inr ⟨t, ht, hs⟩)))))))
    have h3 := fun n hn => hi n (in_nums (.inr (.inr (.inr (.inr (.inr ⟨t, ht, hn⟩))))))
    have hf : t.times.Fit := fit_of h3
    have ht := timesL_le (k := kClosed) hf (by decide)
    refine ⟨hf, Nat.le_trans (line_le (hazW t) 150 ?_) (by show 151 * 5 ≤ _; decide), by omega⟩
    unfold hazW
    intro y hy
    simp only [List.mem_cons, List.not_mem_nil, or_false] at hy
    rcases hy with rfl | rfl | rfl | rfl | rfl
    · decide
    · exact Nat.le_trans (h1 _ (by simp)) (by decide)
    · decide
    · exact Nat.le_trans (h1 _ (by simp)) (by decide)
    · exact ht
theorem fine_of (x : SheetM) (h : checkD x.d = 0) : Fine x := (fineB_of x h).mono (by decide)
end Go.Proofs.YtmihinhbcncbfaaGreatDoor
