/- Sorting by insertion, merging, and sorting from pairs up: plain laws on lists of keys (nothing of the program). -/
namespace Go.Proofs.Ytjlnbeeffdallaa
def leK (x y : Int × Int) : Bool := decide (x.1 ≤ y.1)
theorem leK_iff {x y : Int × Int} : leK x y = true ↔ x.1 ≤ y.1 := by simp [leK]
theorem leK_not {x y : Int × Int} : ¬ leK x y = true ↔ y.1 < x.1 := by simp [leK]
namespace Ms
abbrev K := Int × Int
/-- x, ahead of the first one that is not below it. -/
def ins (x : K) : List K → List K
  | [] => [x]
  | y :: ys => if leK x y then x :: y :: ys else y :: ins x ys
def srt : List K → List K
  | [] => []
  | x :: xs => ins x (srt xs)
/-- A row that does not fall. -/
def Up : List K → Prop
  | [] => True
  | [_] => True
  | x :: y :: r => x.1 ≤ y.1 ∧ Up (y :: r)
theorem ins_length (x : K) (l : List K) : (ins x l).length = l.length + 1 := by
  induction l with
  | nil => rfl
  | cons y ys ih => unfold ins; split <;> simp [ih]
theorem srt_length (l : List K) : (srt l).length = l.length := by
  induction l with
  | nil => rfl
  | cons x xs ih => rw [srt, ins_length, ih, List.length_cons]
theorem Up.tail {x : K} {l : List K} (h : Up (x :: l)) : Up l := by
  cases l with
  | nil => trivial
  | cons y r => exact h.2
theorem Up.le {x : K} {l : List K} (h : Up (x :: l)) : ∀ y ∈ l, x.1 ≤ y.1 := by
  induction l generalizing x with
  | nil => intro y hy; cases hy
  | cons z r ih =>
    intro y hy
    rcases List.mem_cons.1 hy with rfl | hy
    · exact h.1
    · exact Int.le_trans h.1 (ih h.2 y hy)
theorem Up.cons {x : K} {l : List K} (hl : Up l) (h : ∀ y ∈ l, x.1 ≤ y.1) : Up (x :: l) := by
  cases l with
  | nil => trivial
  | cons y r => exact ⟨h y (by simp), hl⟩
theorem mem_ins {x y : K} {l : List K} : y ∈ ins x l ↔ y = x ∨ y ∈ l := by
  induction l with
  | nil => simp [ins]
  | cons z r ih =>
    unfold ins
    split
    · simp
    · simp only [List.mem_cons, ih]
      constructor
      · rintro (h | h | h)
        · exact .inr (.inl h)
        · exact .inl h
        · exact .inr (.inr h)
      · rintro (h | h | h)
        · exact .inr (.inl h)
        · exact .inl h
        · exact .inr (.inr h)
theorem mem_srt {y : K} {l : List K} : y ∈ srt l ↔ y ∈ l := by
  induction l with
  | nil => simp [srt]
  | cons x xs ih => rw [srt, mem_ins, ih, List.mem_cons]
theorem ins_up {x : K} {l : List K} (h : Up l) : Up (ins x l) := by
  induction l with
  | nil => trivial
  | cons y r ih =>
    unfold ins
    split
    · rename_i hle; exact ⟨leK_iff.1 hle, h⟩
    · rename_i hle
      refine Up.cons (ih h.tail) fun z hz => ?_
      rcases mem_ins.1 hz with rfl | hz
      · exact Int.le_of_lt (leK_not.1 hle)
      · exact h.le z hz
theorem srt_up (l : List K) : Up (srt l) := by
  induction l with
  | nil => trivial
  | cons x xs ih => exact ins_up ih
/-- What does not fall is sorted as it stands. -/
theorem srt_of_up {l : List K} (h : Up l) : srt l = l := by
  induction l with
  | nil => rfl
  | cons x xs ih =>
    rw [srt, ih h.tail]
    cases xs with
    | nil => rfl
    | cons y r => rw [ins, if_pos (leK_iff.2 h.1)]
theorem srt_srt (l : List K) : srt (srt l) = srt l := srt_of_up (srt_up l)
theorem merge_ins (x : K) (s t : List K) : (ins x s).merge t leK = ins x (s.merge t leK) := by
  induction s generalizing t with
  | nil =>
    rw [List.nil_merge]
    induction t with
    | nil => simp [ins]
    | cons y r ih =>
      rw [ins, List.cons_merge_cons]
      unfold ins
      split
      · rw [List.nil_merge]
      · have : [x].merge r leK = ins x r := by simpa [ins] using ih
        rw [this]
  | cons z s ih =>
    induction t with
    | nil => simp
    | cons y r ih2 =>
      by_cases hxz : leK x z = true
      · rw [ins, if_pos hxz, List.cons_merge_cons, List.cons_merge_cons]
        by_cases hxy : leK x y = true
        · rw [if_pos hxy]
          by_cases hzy : leK z y = true
          · rw [if_pos hzy, ins, if_pos hxz]
          · rw [if_neg hzy, ins, if_pos hxy]
        · have hzy : ¬ leK z y = true := by rw [leK_not] at *; rw [leK_iff] at hxz; omega
          rw [if_neg hxy, if_neg hzy, ins, if_neg hxy]
          rw [ins, if_pos hxz] at ih2
          rw [ih2]
      · rw [ins, if_neg hxz, List.cons_merge_cons, List.cons_merge_cons]
        by_cases hzy : leK z y = true
        · rw [if_pos hzy, if_pos hzy, ins, if_neg hxz, ih]
        · have hxy : ¬ leK x y = true := by rw [leK_not] at *; omega
          rw [if_neg hzy, if_neg hzy, ins, if_neg hxy]
          rw [ins, if_neg hxz] at ih2
          rw [ih2]
/-- Two sorted rows merged are both sorted. -/
theorem merge_srt (a b : List K) : (srt a).merge (srt b) leK = srt (a ++ b) := by
  induction a with
  | nil => simp [srt]
  | cons x xs ih => rw [srt, merge_ins, ih, List.cons_append, srt]
/-- One more behind all that are not above it. -/
theorem srt_snoc (a : List K) (x : K) : srt (a ++ [x]) = (srt a).merge [x] leK := by
  rw [← merge_srt]; rfl

/-- lf holds l, sorted in pieces of d. -/
def Pieces (d : Nat) (l lf : List K) : Prop := lf.length = l.length ∧ ∀ q, (lf.drop (q * d)).take d = srt ((l.drop (q * d)).take d)
theorem pieces_one (l : List K) : Pieces 1 l l := by
  refine ⟨rfl, fun q => ?_⟩
  rw [Nat.mul_one]
  cases h : l.drop q with
  | nil => simp [srt]
  | cons x xs => simp [srt, ins]
theorem pieces_all {d : Nat} {l lf : List K} (h : Pieces d l lf) (hd : l.length ≤ d) : lf = srt l := by
  have := h.2 0
  rw [Nat.zero_mul, List.drop_zero, List.drop_zero, List.take_of_length_le (by have := h.1; omega), List.take_of_length_le hd] at this
  exact this
/-- The pieces up to the k-th are done, in pieces of e. -/
def Done (e k : Nat) (l lt : List K) : Prop := lt.length = min (k * e) l.length ∧ ∀ q, q < k → (lt.drop (q * e)).take e = srt ((l.drop (q * e)).take e)
theorem done_zero (e : Nat) (l : List K) : Done e 0 l [] := ⟨by simp, fun q h => absurd h (Nat.not_lt_zero q)⟩
theorem done_all {e k : Nat} {l lt : List K} (h : Done e k l lt) (hk : l.length ≤ k * e) : Pieces e l lt := by
  have hl : lt.length = l.length := by rw [h.1]; omega
  refine ⟨hl, fun q => ?_⟩
  by_cases hq : q < k
  · exact h.2 q hq
  · have : k * e ≤ q * e := Nat.mul_le_mul_right e (by omega)
    rw [List.drop_eq_nil_of_le (by omega), List.drop_eq_nil_of_le (by omega)]
    simp [srt]
theorem take_split (l : List K) (a b : Nat) : l.take (a + b) = l.take a ++ (l.drop a).take b := List.take_add
/-- One piece more: two pieces of d, merged. -/
theorem done_step {d k : Nat} {l lf lt : List K} (hp : Pieces d l lf) (hd : 0 < d) (h : Done (2 * d) k l lt) (hk : k * (2 * d) < l.length) (mid stop : Nat) (hm : mid = min (k * (2 * d) + d) l.length) (he : stop = min (k * (2 * d) + 2 * d) l.length) :
    Done (2 * d) (k + 1) l (lt ++ ((lf.take mid).drop (k * (2 * d))).merge ((lf.take stop).drop mid) leK) := by
  have hlt : lt.length = k * (2 * d) := by rw [h.1]; omega
  have h1 : (lf.take mid).drop (k * (2 * d)) = srt ((l.drop (k * (2 * d))).take d) := by
    have := hp.2 (2 * k)
    rw [show 2 * k * d = k * (2 * d) from by rw [Nat.mul_comm 2 k, Nat.mul_assoc]] at this
    rw [← this, List.drop_take]
    by_cases g : k * (2 * d) + d ≤ l.length
    · rw [show mid - k * (2 * d) = d from by omega]
    · rw [List.take_of_length_le (by rw [List.length_drop, hp.1]; omega), List.take_of_length_le (by rw [List.length_drop, hp.1]; omega)]
  have h2 : (lf.take stop).drop mid = srt ((l.drop (k * (2 * d) + d)).take d) := by
    have := hp.2 (2 * k + 1)
    rw [show (2 * k + 1) * d = k * (2 * d) + d from by rw [Nat.add_mul, Nat.one_mul, Nat.mul_comm 2 k, Nat.mul_assoc]] at this
    rw [← this, List.drop_take]
    by_cases g : k * (2 * d) + d ≤ l.length
    · rw [show mid = k * (2 * d) + d from by omega]
      by_cases g2 : k * (2 * d) + 2 * d ≤ l.length
      · rw [show stop - (k * (2 * d) + d) = d from by omega]
      · rw [List.take_of_length_le (by rw [List.length_drop, hp.1]; omega), List.take_of_length_le (by rw [List.length_drop, hp.1]; omega)]
    · rw [show stop - mid = 0 from by omega, List.drop_eq_nil_of_le (by rw [hp.1]; omega : lf.length ≤ k * (2 * d) + d)]
      simp
  have h3 : ((lf.take mid).drop (k * (2 * d))).merge ((lf.take stop).drop mid) leK = srt ((l.drop (k * (2 * d))).take (2 * d)) := by
    rw [h1, h2, merge_srt, show 2 * d = d + d from by omega, take_split, List.drop_drop]
  rw [h3]
  refine ⟨?_, fun q hq => ?_⟩
  · rw [List.length_append, hlt, srt_length, List.length_take, List.length_drop, Nat.add_mul, Nat.one_mul]
    omega
  · by_cases g : q < k
    · have hq' : q * (2 * d) + 2 * d ≤ k * (2 * d) := by
        have := Nat.mul_le_mul_right (2 * d) (show q + 1 ≤ k from g)
        rw [Nat.add_mul, Nat.one_mul] at this
        exact this
      rw [List.drop_append_of_le_length (by omega), List.take_append_of_le_length (by rw [List.length_drop]; omega)]
      exact h.2 q g
    · have : q = k := by omega
      subst this
      rw [← hlt, List.drop_left, List.take_of_length_le (by rw [srt_length, List.length_take]; omega)]
end Ms
/-- Numbers with their places. -/
def keyed (l : List Int) : List (Int × Int) := (l.zipIdx).map fun p => (p.1, (p.2 : Int))
theorem keyed_length (l : List Int) : (keyed l).length = l.length := by simp [keyed]
theorem keyed_snoc (l : List Int) (x : Int) : keyed (l ++ [x]) = keyed l ++ [(x, (l.length : Int))] := by
  simp [keyed, List.zipIdx_append]

/-- The places, as order.Perm tells them. -/
def perm (l : List Int) : List Int := (Ms.srt (keyed l)).map (·.2)
end Go.Proofs.Ytjlnbeeffdallaa
