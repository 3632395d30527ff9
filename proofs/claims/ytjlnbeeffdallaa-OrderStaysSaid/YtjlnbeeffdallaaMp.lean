/- Places do not change, or are turned about: plain laws of sorting (nothing of the program). -/
import Derived.Test.YtjlnbeeffdallaaMs
namespace Go.Proofs.Ytjlnbeeffdallaa
namespace Ms
/-- By number, and then by place. -/
def lex (a b : K) : Prop := a.1 < b.1 ∨ (a.1 = b.1 ∧ a.2 ≤ b.2)
theorem lex_le {a b : K} (h : lex a b) : a.1 ≤ b.1 := by rcases h with h | ⟨h, _⟩ <;> omega
theorem lex_antisymm {a b : K} (h : lex a b) (k : lex b a) : a = b := by
  rcases h with h | ⟨h1, h2⟩
  · rcases k with k | ⟨k1, k2⟩ <;> omega
  · rcases k with k | ⟨k1, k2⟩
    · omega
    · exact Prod.ext h1 (by omega)
theorem ins_perm (x : K) (l : List K) : (ins x l).Perm (x :: l) := by
  induction l with
  | nil => exact List.Perm.refl _
  | cons y ys ih =>
    unfold ins
    split
    · exact List.Perm.refl _
    · exact (List.Perm.cons y ih).trans (List.Perm.swap x y ys)
theorem srt_perm (l : List K) : (srt l).Perm l := by
  induction l with
  | nil => exact List.Perm.refl _
  | cons x xs ih => exact (ins_perm x (srt xs)).trans (List.Perm.cons x ih)
theorem ins_lex {x : K} {s : List K} (h : ∀ y ∈ s, x.2 < y.2) (hs : s.Pairwise lex) : (ins x s).Pairwise lex := by
  induction s with
  | nil => simp [ins]
  | cons y ys ih =>
    unfold ins
    rw [List.pairwise_cons] at hs
    split
    · rename_i hle
      rw [leK_iff] at hle
      refine List.pairwise_cons.2 ⟨fun z hz => ?_, List.pairwise_cons.2 hs⟩
      have hyz : y.1 ≤ z.1 := by
        rcases List.mem_cons.1 hz with rfl | hz
        · exact Int.le_refl _
        · exact lex_le (hs.1 z hz)
      have h2 := h z hz
      by_cases he : x.1 < z.1
      · exact .inl he
      · exact .inr ⟨by omega, by omega⟩
    · rename_i hle
      rw [leK_not] at hle
      refine List.pairwise_cons.2 ⟨fun z hz => ?_, ih (fun z hz => h z (List.mem_cons_of_mem _ hz)) hs.2⟩
      rcases mem_ins.1 hz with rfl | hz
      · exact .inl hle
      · exact hs.1 z hz
theorem srt_lex {l : List K} (h : l.Pairwise fun a b => a.2 < b.2) : (srt l).Pairwise lex := by
  induction l with
  | nil => exact List.Pairwise.nil
  | cons x xs ih =>
    rw [List.pairwise_cons] at h
    exact ins_lex (fun y hy => h.1 y (mem_srt.1 hy)) (ih h.2)
theorem pw_mono {α : Type} {R S : α → α → Prop} (h : ∀ a b, R a b → S a b) {l : List α} (hl : l.Pairwise R) : l.Pairwise S := by
  induction l with
  | nil => exact List.Pairwise.nil
  | cons x xs ih =>
    rw [List.pairwise_cons] at hl
    exact List.pairwise_cons.2 ⟨fun y hy => h _ _ (hl.1 y hy), ih hl.2⟩
/-- Only one row has all, and goes up by number and place. -/
theorem srt_unique {l s : List K} (h : l.Pairwise fun a b => a.2 < b.2) (hp : s.Perm l) (hs : s.Pairwise lex) : srt l = s :=
  List.Perm.eq_of_pairwise (fun _ _ _ _ h k => lex_antisymm h k) (srt_lex h) hs ((srt_perm l).trans hp.symm)
theorem ins_map (f : Int → Int) (hf : ∀ a b, a ≤ b ↔ f a ≤ f b) (x : K) (l : List K) : ins (f x.1, x.2) (l.map fun k => (f k.1, k.2)) = (ins x l).map fun k => (f k.1, k.2) := by
  induction l with
  | nil => rfl
  | cons y ys ih =>
    rw [List.map_cons, ins, ins]
    by_cases h : leK x y = true
    · rw [if_pos h, if_pos (leK_iff.2 ((hf _ _).1 (leK_iff.1 h)))]; rfl
    · rw [if_neg h, if_neg (fun h' => h (leK_iff.2 ((hf _ _).2 (leK_iff.1 h')))), ih]; rfl
theorem srt_map (f : Int → Int) (hf : ∀ a b, a ≤ b ↔ f a ≤ f b) (l : List K) : srt (l.map fun k => (f k.1, k.2)) = (srt l).map fun k => (f k.1, k.2) := by
  induction l with
  | nil => rfl
  | cons x xs ih => rw [List.map_cons, srt, ih, ins_map f hf, srt]
end Ms
open Ms
theorem keyed_at (l : List Int) (i : Nat) (h : i < (keyed l).length) : (keyed l)[i] = (l[i]'(by rw [keyed_length] at h; exact h), (i : Int)) := by
  simp [keyed]
theorem keyed_pair (l : List Int) : (keyed l).Pairwise fun a b => a.2 < b.2 := by
  rw [List.pairwise_iff_getElem]
  intro i j hi hj hij
  rw [keyed_at, keyed_at]
  show (i : Int) < (j : Int)
  omega
theorem keyed_map (f : Int → Int) (l : List Int) : keyed (l.map f) = (keyed l).map fun k => (f k.1, k.2) := by
  apply List.ext_getElem
  · simp [keyed_length]
  · intro i h1 h2
    rw [keyed_at, List.getElem_map, List.getElem_map, keyed_at]
theorem perm_length (l : List Int) : (perm l).length = l.length := by rw [perm, List.length_map, srt_length, keyed_length]
/-- Moved all by the same, the places are as they were. -/
theorem perm_map (f : Int → Int) (hf : ∀ a b, a ≤ b ↔ f a ≤ f b) (l : List Int) : perm (l.map f) = perm l := by
  rw [perm, keyed_map, srt_map f hf, List.map_map]
  rfl
theorem keyed_back (l : List Int) : keyed (l.reverse.map (- ·)) = ((keyed l).map fun k => (-k.1, (l.length : Int) - 1 - k.2)).reverse := by
  apply List.ext_getElem
  · simp [keyed_length]
  · intro i h1 h2
    have hi : i < l.length := by simpa [keyed_length] using h1
    rw [keyed_at, List.getElem_map, List.getElem_reverse, List.getElem_reverse, List.getElem_map, keyed_at]
    simp only [List.length_map, keyed_length]
    refine Prod.ext rfl ?_
    show (i : Int) = (l.length : Int) - 1 - ((l.length - 1 - i : Nat) : Int)
    omega
/-- Turned about by their signs, and from the end, they stand the other way. -/
theorem perm_back (l : List Int) : perm (l.reverse.map (- ·)) = (perm l).reverse.map fun p => (l.length : Int) - 1 - p := by
  have h : srt (keyed (l.reverse.map (- ·))) = ((srt (keyed l)).map fun k => (-k.1, (l.length : Int) - 1 - k.2)).reverse := by
    refine srt_unique (keyed_pair _) ?_ ?_
    · rw [keyed_back]
      exact (List.reverse_perm _).trans (((srt_perm (keyed l)).map _).trans (List.reverse_perm _).symm)
    · rw [List.pairwise_reverse, List.pairwise_map]
      refine pw_mono (fun a b h => ?_) (srt_lex (keyed_pair l))
      rcases h with h | ⟨h1, h2⟩
      · exact .inl (by show -b.1 < -a.1; omega)
      · exact .inr ⟨by show -b.1 = -a.1; omega, by show (l.length : Int) - 1 - b.2 ≤ (l.length : Int) - 1 - a.2; omega⟩
  rw [perm, h, perm, List.map_reverse, List.map_map, List.map_reverse, List.map_map]
  rfl
theorem perm_back_at (l : List Int) (i : Nat) (hi : i < l.length) : (perm (l.reverse.map (- ·)))[i]'(by rw [perm_length]; simpa using hi) = (l.length : Int) - 1 - (perm l)[l.length - 1 - i]'(by rw [perm_length]; omega) := by
  simp only [perm_back]
  rw [List.getElem_map, List.getElem_reverse]
  simp only [perm_length]
theorem getD_at {l : List Int} {i : Nat} (h : i < l.length) : l.getD i 0 = l[i] := by rw [List.getD_eq_getElem?_getD, List.getElem?_eq_getElem h]; rfl
theorem perm_back_getD (l : List Int) (i : Nat) (hi : i < l.length) : (perm (l.reverse.map (- ·))).getD i 0 = (l.length : Int) - 1 - (perm l).getD (l.length - 1 - i) 0 := by
  have h1 : i < (perm (l.reverse.map (- ·))).length := by rw [perm_length]; simpa using hi
  have h2 : l.length - 1 - i < (perm l).length := by rw [perm_length]; omega
  rw [getD_at h1, getD_at h2]
  exact perm_back_at l i hi
/-- The places are those of the row. -/
theorem perm_range (l : List Int) : ∀ p ∈ perm l, 0 ≤ p ∧ p < l.length := by
  intro p hp
  obtain ⟨k, hk, rfl⟩ := List.mem_map.1 hp
  obtain ⟨i, hi, rfl⟩ := List.getElem_of_mem (mem_srt.1 hk)
  rw [keyed_at]
  have : i < l.length := by rw [keyed_length] at hi; exact hi
  exact ⟨by show (0 : Int) ≤ (i : Int); omega, by show (i : Int) < _; omega⟩
end Go.Proofs.Ytjlnbeeffdallaa
