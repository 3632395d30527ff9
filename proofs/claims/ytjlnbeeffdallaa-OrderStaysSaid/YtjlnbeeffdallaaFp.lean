/- Searching in what is sorted: plain laws (nothing of the program). -/
import Derived.Test.YtjlnbeeffdallaaUq
import Derived.Test.YtjlnbeeffdallaaLu
namespace Go.Proofs.Ytjlnbeeffdallaa
open Ms

theorem steps_of_pw {g : Int → Int → Bool} {R : Int → Int → Prop} (hR : ∀ a b, R a b → g a b = true) {l : List Int} (h : l.Pairwise R) : stepsB g l = true :=
  (stepsB_iff g l).2 fun j hj => hR _ _ (List.pairwise_iff_getElem.1 h j (j + 1) (by omega) hj (by omega))
theorem pw_of_lt {l : List Int} (h : stepsB (fun a b => decide (a < b)) l = true) : l.Pairwise (· < ·) := by
  rw [List.pairwise_iff_getElem]
  intro i j hi hj hij
  have key : ∀ d (hd : i + d + 1 < l.length), l[i] < l[i + d + 1] := by
    intro d
    induction d with
    | zero => intro hd; exact of_decide_eq_true ((stepsB_iff _ l).1 h i hd)
    | succ d ih =>
      intro hd
      have h1 := ih (by omega)
      have h2 := of_decide_eq_true ((stepsB_iff _ l).1 h (i + d + 1) hd)
      exact Int.lt_trans h1 h2
  have := key (j - i - 1) (by omega)
  simpa only [show i + (j - i - 1) + 1 = j from by omega] using this
theorem sortI_pw (l : List Int) : (sortI l).Pairwise (· ≤ ·) := by
  unfold sortI
  rw [List.pairwise_map]
  exact pw_mono (fun a b h => lex_le h) (srt_lex (keyed_pair l))
theorem sortI_length (l : List Int) : (sortI l).length = l.length := by unfold sortI; rw [List.length_map, srt_length, keyed_length]
theorem sortI_steps (l : List Int) : stepsB (fun a b => decide (a ≤ b)) (sortI l) = true := steps_of_pw (fun _ _ h => decide_eq_true h) (sortI_pw l)

/-! where the first one is -/
theorem idx_iff {p : Int → Bool} {l : List Int} (hs : stepsB (fun a b => decide (a ≤ b)) l = true) (hp : ∀ a b, a ≤ b → p a = true → p b = true) {i : Nat} (hi : i < l.length) : l.findIdx p ≤ i ↔ p l[i] = true := by
  constructor
  · intro h
    have h1 : l.findIdx p < l.length := by omega
    exact hp _ _ (steps_le_le hs h hi) (List.findIdx_getElem (w := h1))
  · intro h
    by_cases hc : l.findIdx p ≤ i
    · exact hc
    · have := List.not_of_lt_findIdx (p := p) (xs := l) (i := i) (by omega)
      rw [h] at this; cases this
theorem lower_eq {l : List Int} (hs : stepsB (fun a b => decide (a ≤ b)) l = true) (x : Int) : lower l x = (l.findIdx fun y => decide (x ≤ y) : Nat) := by unfold lower; rw [if_pos hs]
theorem upper_eq {l : List Int} (hs : stepsB (fun a b => decide (a ≤ b)) l = true) (x : Int) : upper l x = (l.findIdx fun y => decide (x < y) : Nat) := by unfold upper; rw [if_pos hs]
theorem lower_iff {l : List Int} (hs : stepsB (fun a b => decide (a ≤ b)) l = true) (x : Int) {i : Nat} (hi : i < l.length) : (i : Int) < lower l x ↔ l[i] < x := by
  have := idx_iff hs (ge_mono x) hi
  rw [lower_eq hs, decide_eq_true_iff] at *
  omega
theorem upper_iff {l : List Int} (hs : stepsB (fun a b => decide (a ≤ b)) l = true) (x : Int) {i : Nat} (hi : i < l.length) : upper l x ≤ (i : Int) ↔ x < l[i] := by
  have := idx_iff hs (gt_mono x) hi
  rw [upper_eq hs, decide_eq_true_iff] at *
  omega
theorem bounds {l : List Int} (hs : stepsB (fun a b => decide (a ≤ b)) l = true) (x : Int) : 0 ≤ lower l x ∧ lower l x ≤ upper l x ∧ upper l x ≤ l.length := by
  have h2 : (l.findIdx fun y => decide (x < y)) ≤ l.length := List.findIdx_le_length
  have h1 : (l.findIdx fun y => decide (x ≤ y)) ≤ l.findIdx fun y => decide (x < y) := by
    by_cases h : (l.findIdx fun y => decide (x < y)) < l.length
    · have h3 := List.findIdx_getElem (w := h)
      exact (idx_iff hs (ge_mono x) h).2 (decide_eq_true (Int.le_of_lt (of_decide_eq_true h3)))
    · have h4 : (l.findIdx fun y => decide (x ≤ y)) ≤ l.length := List.findIdx_le_length
      omega
  rw [lower_eq hs, upper_eq hs]
  omega
theorem lower_hit {u : List Int} (hs : stepsB (fun a b => decide (a ≤ b)) u = true) {x : Int} (hx : x ∈ u) : ∃ k : Nat, ∃ h : k < u.length, lower u x = k ∧ u[k] = x := by
  obtain ⟨j, hj, hjx⟩ := List.getElem_of_mem hx
  have h1 : (u.findIdx fun y => decide (x ≤ y)) ≤ j := (idx_iff hs (ge_mono x) hj).2 (decide_eq_true (by rw [hjx]; exact Int.le_refl _))
  have h2 : (u.findIdx fun y => decide (x ≤ y)) < u.length := by omega
  refine ⟨_, h2, lower_eq hs x, ?_⟩
  have h3 := of_decide_eq_true (List.findIdx_getElem (w := h2))
  have h4 := steps_le_le hs h1 hj
  rw [hjx] at h4
  exact Int.le_antisymm h4 h3

/-! each number once -/
theorem pw_last {out : List Int} (h : out.Pairwise (· < ·)) {y : Int} (hy : out.getLast? = some y) : ∀ o ∈ out, o ≤ y := by
  intro o ho
  obtain ⟨i, hi, rfl⟩ := List.getElem_of_mem ho
  rw [List.getLast?_eq_getElem?, List.getElem?_eq_some_iff] at hy
  obtain ⟨hl, rfl⟩ := hy
  by_cases he : i = out.length - 1
  · subst he; exact Int.le_refl _
  · exact Int.le_of_lt (List.pairwise_iff_getElem.1 h i (out.length - 1) hi hl (by omega))
theorem uqs_mem {out : List Int} {x z : Int} : z ∈ uqs out x ↔ z ∈ out ∨ z = x := by
  unfold uqs
  split
  · rename_i h
    constructor
    · exact .inl
    · rintro (h1 | rfl)
      · exact h1
      · exact List.mem_of_getLast? h
  · simp
theorem fold_mem (l : List Int) : ∀ out z, z ∈ l.foldl uqs out ↔ z ∈ out ∨ z ∈ l := by
  induction l with
  | nil => intro out z; simp
  | cons x r ih =>
    intro out z
    rw [List.foldl_cons, ih, uqs_mem, List.mem_cons, or_assoc]
theorem fold_pw (l : List Int) : ∀ out, out.Pairwise (· < ·) → (∀ o ∈ out, ∀ x ∈ l, o ≤ x) → l.Pairwise (· ≤ ·) → (l.foldl uqs out).Pairwise (· < ·) := by
  induction l with
  | nil => intro out h _ _; exact h
  | cons x r ih =>
    intro out h ho hl
    rw [List.pairwise_cons] at hl
    rw [List.foldl_cons]
    refine ih _ ?_ ?_ hl.2
    · unfold uqs
      split
      · exact h
      · rename_i hne
        rw [List.pairwise_append]
        refine ⟨h, by simp, fun o h1 z h2 => ?_⟩
        rcases List.mem_singleton.1 h2 with rfl
        have h3 := ho o h1 z (by simp)
        by_cases he : o = z
        · exfalso
          cases hg : out.getLast? with
          | none => rw [List.getLast?_eq_none_iff] at hg; rw [hg] at h1; cases h1
          | some y =>
            have h4 := pw_last h hg o h1
            have h5 := ho y (List.mem_of_getLast? hg) z (by simp)
            apply hne
            rw [hg, show y = z by omega]
        · omega
    · intro o h1 z hz
      rcases uqs_mem.1 h1 with h1 | rfl
      · exact ho o h1 z (by simp [hz])
      · exact hl.1 z hz
theorem fold_full (l : List Int) : ∀ out, (l.foldl uqs out).length = out.length + l.length → l.foldl uqs out = out ++ l := by
  induction l with
  | nil => intro out _; simp
  | cons x r ih =>
    intro out h
    rw [List.foldl_cons] at h ⊢
    have h1 := foldl_uqs_length r (uqs out x)
    have h2 : uqs out x = out ++ [x] := by
      by_cases hc : out.getLast? = some x
      · have : uqs out x = out := by unfold uqs; rw [if_pos hc]
        rw [this] at h h1
        rw [List.length_cons] at h
        omega
      · unfold uqs; rw [if_neg hc]
    rw [h2] at h ⊢
    rw [ih _ (by rw [h, List.length_append, List.length_cons, List.length_singleton]; omega)]
    simp
theorem fold_strict (l : List Int) : ∀ out, (out ++ l).Pairwise (· < ·) → l.foldl uqs out = out ++ l := by
  induction l with
  | nil => intro out _; simp
  | cons x r ih =>
    intro out h
    rw [List.foldl_cons]
    have h2 : uqs out x = out ++ [x] := by
      unfold uqs
      rw [if_neg]
      intro e
      have := (List.pairwise_append.1 h).2.2 x (List.mem_of_getLast? e) x (by simp)
      omega
    rw [h2, ih _ (by simpa using h)]
    simp
theorem uq_pw (l : List Int) : (uq (sortI l)).Pairwise (· < ·) := fold_pw _ [] List.Pairwise.nil (fun o h => by cases h) (sortI_pw l)
theorem uq_rising (l : List Int) : stepsB (fun a b => decide (a < b)) (uq (sortI l)) = true := steps_of_pw (fun _ _ h => decide_eq_true h) (uq_pw l)
theorem uq_steps (l : List Int) : stepsB (fun a b => decide (a ≤ b)) (uq (sortI l)) = true := steps_of_pw (fun _ _ h => decide_eq_true (Int.le_of_lt h)) (uq_pw l)
theorem uq_mem (l : List Int) {z : Int} (h : z ∈ sortI l) : z ∈ uq (sortI l) := (fold_mem _ _ _).2 (.inr h)
theorem rising_iff (l : List Int) : stepsB (fun a b => decide (a < b)) (sortI l) = decide ((uq (sortI l)).length = (sortI l).length) := by
  by_cases h : (uq (sortI l)).length = (sortI l).length
  · rw [decide_eq_true h]
    have : uq (sortI l) = sortI l := by
      have := fold_full (sortI l) [] (by unfold uq at h; rw [h]; simp)
      simpa [uq] using this
    have h2 := uq_rising l
    rw [this] at h2
    exact h2
  · rw [decide_eq_false h]
    cases hb : stepsB (fun a b => decide (a < b)) (sortI l) with
    | false => rfl
    | true =>
      exfalso
      apply h
      have := fold_strict (sortI l) [] (by simpa using pw_of_lt hb)
      unfold uq
      rw [this]; simp
/-! the places tell the sorted row -/
theorem perm_at (l : List Int) {k : Nat} (hk : k < l.length) : ∃ y : Nat, ∃ h : y < l.length, (perm l)[k]'(by rw [perm_length]; exact hk) = (y : Int) ∧ l[y] = (sortI l)[k]'(by rw [sortI_length]; exact hk) := by
  have hL : k < (srt (keyed l)).length := by rw [srt_length, keyed_length]; exact hk
  have hm : (srt (keyed l))[k] ∈ keyed l := mem_srt.1 (List.getElem_mem _)
  obtain ⟨y, hy, he⟩ := List.getElem_of_mem hm
  rw [keyed_at] at he
  have hy' : y < l.length := by rw [keyed_length] at hy; exact hy
  refine ⟨y, hy', ?_, ?_⟩
  · simp only [perm, List.getElem_map]
    rw [← he]
  · simp only [sortI, List.getElem_map]
    rw [← he]
end Go.Proofs.Ytjlnbeeffdallaa
