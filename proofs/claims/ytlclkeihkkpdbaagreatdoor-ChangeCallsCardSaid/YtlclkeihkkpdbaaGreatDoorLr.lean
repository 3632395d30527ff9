/- Two texts with a line's end between are cut one by one (plain): the law LexJoins of the machine. -/
import Derived.Test.YtlclkeihkkpdbaaGreatDoorLp
namespace Go.Proofs.YtlclkeihkkpdbaaGreatDoor
open Go.RowKit
/-- Where the machine stands behind all its steps. -/
def final (st : St) (c : Cur) : Cur := (runs (mu st c) st c).2
theorem final_none (c : Cur) : final .none c = c := rfl
theorem final_start (s : ByteArray) : lexed s = final .any (Cur.start s) := rfl
theorem final_step {st : St} {c : Cur} (h : Inv st c) (hs : st ≠ .none) : final st c = final (stepSt st c).1 (stepSt st c).2 := by
  obtain ⟨h1, h2⟩ := step_inv h hs
  obtain ⟨k, hk⟩ : ∃ k, mu st c = k + 1 := ⟨mu st c - 1, by omega⟩
  unfold final
  rw [hk]
  simp only [runs, if_neg hs]
  rw [(runs_stable k h1 (by omega) _ (Nat.le_refl _)).1]
theorem pre_app (p : UInt8 → Bool) (hp : p 10 = false) (l r : List UInt8) : Nm.pre p (l ++ 10 :: r) = Nm.pre p l := by
  unfold Nm.pre
  induction l with
  | nil => rw [List.nil_append, List.takeWhile_cons, hp]; rfl
  | cons a l ih =>
    rw [List.cons_append, List.takeWhile_cons, List.takeWhile_cons]
    split
    · rw [List.length_cons, List.length_cons, ih]
    · rfl
/-- The same cursor at another text. -/
def Cur.on (c : Cur) (u : ByteArray) : Cur := { c with s := u }
/-- u is s, a line's end, and t. -/
def Joined (s t u : ByteArray) : Prop := u.data.toList = s.data.toList ++ 10 :: t.data.toList
theorem Joined.size {s t u : ByteArray} (h : Joined s t u) : u.size = s.size + 1 + t.size := by
  have := congrArg List.length h
  rw [List.length_append, List.length_cons, Nm.len_size, Nm.len_size, Nm.len_size] at this
  omega
theorem on_rest {t u : ByteArray} {c : Cur} (h : Joined c.s t u) (hp : c.pos ≤ c.s.size) : (c.on u).rest = c.rest ++ 10 :: t.data.toList := by
  show u.data.toList.drop c.pos = _
  rw [h, List.drop_append_of_le_length (by rw [Nm.len_size]; exact hp)]
  rfl
theorem on_byte {t u : ByteArray} {c : Cur} (h : Joined c.s t u) (hp : c.pos < c.s.size) : (c.on u).byte = c.byte := by
  show u.data.toList.getD c.pos 0 = c.s.data.toList.getD c.pos 0
  rw [h, List.getD_eq_getElem?_getD, List.getD_eq_getElem?_getD, List.getElem?_append_left (by rw [Nm.len_size]; exact hp)]
theorem on_byte_end {t u : ByteArray} {c : Cur} (h : Joined c.s t u) (hp : c.pos = c.s.size) : (c.on u).byte = 10 := by
  show u.data.toList.getD c.pos 0 = 10
  rw [h, List.getD_eq_getElem?_getD, List.getElem?_append_right (by rw [Nm.len_size]; omega), Nm.len_size, hp, Nat.sub_self]
  rfl
theorem on_close (c : Cur) (u : ByteArray) : (c.on u).close = c.close.on u := by
  unfold Cur.close
  show (if c.some = true then _ else _) = _
  split <;> rfl
theorem step_on {t u : ByteArray} {st : St} {c : Cur} (hi : Inv st c) (hs : st ≠ .none) (hu : Joined c.s t u) (hne : ¬ (st = .end_ ∧ c.pos = c.s.size)) :
    stepSt st (c.on u) = ((stepSt st c).1, (stepSt st c).2.on u) ∧ ((stepSt st c).1 = .none → (stepSt st c).2.err ≠ 0) := by
  have ok := hi.ok
  have k2 := ok.pos
  have hz := hu.size
  have hpu : (c.on u).pos = c.pos := rfl
  have hsu : (c.on u).s = u := rfl
  cases st with
  | none => exact absurd rfl hs
  | any =>
    show stepAny (c.on u) = ((stepAny c).1, (stepAny c).2.on u) ∧ ((stepAny c).1 = .none → (stepAny c).2.err ≠ 0)
    unfold stepAny
    rcases Nat.lt_or_eq_of_le k2 with hlt | heq
    · rw [on_byte hu hlt, hpu, hsu]
      have e1 : (c.pos = u.size ∨ c.byte = 10) ↔ (c.pos = c.s.size ∨ c.byte = 10) := ⟨fun h => .inr (h.resolve_left (by omega)), fun h => .inr (h.resolve_left (by omega))⟩
      simp only [e1]
      by_cases h1 : c.pos = c.s.size ∨ c.byte = 10
      · simp only [if_pos h1]; exact ⟨by trivial, fun e => by cases e⟩
      · simp only [if_neg h1]
        by_cases h2 : c.byte = 35
        · simp only [if_pos h2]; exact ⟨by trivial, fun e => by cases e⟩
        · simp only [if_neg h2]
          by_cases h3 : c.byte = 32 ∨ c.byte = 9
          · simp only [if_pos h3]; exact ⟨rfl, fun e => by cases e⟩
          · simp only [if_neg h3]
            by_cases h4 : Nm.cls c.byte = 1
            · simp only [if_pos h4]; exact ⟨by trivial, fun e => by cases e⟩
            · simp only [if_neg h4]
              by_cases h5 : Nm.cls c.byte = 2
              · simp only [if_pos h5]; exact ⟨by trivial, fun e => by cases e⟩
              · simp only [if_neg h5]; exact ⟨rfl, fun _ => by show (7 : Int) ≠ 0; decide⟩
    · rw [if_pos (.inr (on_byte_end hu heq)), if_pos (.inl heq)]
      exact ⟨rfl, fun e => by cases e⟩
  | end_ =>
    have hlt : c.pos < c.s.size := by
      have : c.pos ≠ c.s.size := fun e => hne ⟨rfl, e⟩
      omega
    show stepEnd (c.on u) = ((stepEnd c).1, (stepEnd c).2.on u) ∧ ((stepEnd c).1 = .none → (stepEnd c).2.err ≠ 0)
    unfold stepEnd
    rw [hpu, hsu, if_neg (by omega), if_neg (by omega), on_close]
    exact ⟨rfl, fun e => by cases e⟩
  | remark =>
    refine ⟨?_, fun e => by cases e⟩
    show stepRemark (c.on u) = ((stepRemark c).1, (stepRemark c).2.on u)
    unfold stepRemark
    have he : (c.on u).eol = c.eol := by
      show c.pos + Nm.pre (fun b => b != 10) (c.on u).rest = c.pos + Nm.pre (fun b => b != 10) c.rest
      rw [on_rest hu k2, pre_app _ (by decide)]
    rw [he]
    rfl
  | word =>
    have hle := Nm.pre_le Nm.more c.rest
    show stepWord (c.on u) = ((stepWord c).1, (stepWord c).2.on u) ∧ ((stepWord c).1 = .none → (stepWord c).2.err ≠ 0)
    unfold stepWord
    rw [on_rest hu k2, pre_app _ (by decide)]
    dsimp only
    rw [List.take_append_of_le_length hle]
    by_cases h24 : 24 < Nm.pre Nm.more c.rest
    · simp only [if_pos h24]; exact ⟨rfl, fun _ => by show (3 : Int) ≠ 0; decide⟩
    · simp only [if_neg h24]; exact ⟨rfl, fun e => by cases e⟩
  | number =>
    have hle := Nm.pre_le Nm.dig c.rest
    show stepNumber (c.on u) = ((stepNumber c).1, (stepNumber c).2.on u) ∧ ((stepNumber c).1 = .none → (stepNumber c).2.err ≠ 0)
    unfold stepNumber
    rw [on_rest hu k2, pre_app _ (by decide)]
    dsimp only
    rw [List.take_append_of_le_length hle]
    have hq : (Nm.pre Nm.dig c.rest < (c.rest ++ 10 :: t.data.toList).length ∧ Nm.cls ((c.rest ++ 10 :: t.data.toList).getD (Nm.pre Nm.dig c.rest) 0) ≠ 0) ↔ (Nm.pre Nm.dig c.rest < c.rest.length ∧ Nm.cls (c.rest.getD (Nm.pre Nm.dig c.rest) 0) ≠ 0) := by
      rw [List.length_append, List.length_cons, List.getD_eq_getElem?_getD, List.getD_eq_getElem?_getD]
      rcases Nat.lt_or_eq_of_le hle with h | h
      · rw [List.getElem?_append_left h]
        exact ⟨fun e => ⟨h, e.2⟩, fun e => ⟨by omega, e.2⟩⟩
      · rw [List.getElem?_append_right (by omega), h, Nat.sub_self]
        exact ⟨fun e => absurd (by rfl : Nm.cls 10 = 0) e.2, fun e => absurd e.1 (by omega)⟩
    simp only [hq]
    by_cases h7 : Tk.parseE (c.rest.take (Nm.pre Nm.dig c.rest)) = 7
    · simp only [if_pos h7]; exact ⟨rfl, fun _ => by show (7 : Int) ≠ 0; decide⟩
    · by_cases h0 : Tk.parseE (c.rest.take (Nm.pre Nm.dig c.rest)) ≠ 0
      · simp only [if_neg h7, if_pos h0]; exact ⟨rfl, fun _ => by show (3 : Int) ≠ 0; decide⟩
      · by_cases hq2 : Nm.pre Nm.dig c.rest < c.rest.length ∧ Nm.cls (c.rest.getD (Nm.pre Nm.dig c.rest) 0) ≠ 0
        · simp only [if_neg h7, if_neg h0, if_pos hq2]; exact ⟨rfl, fun _ => by show (7 : Int) ≠ 0; decide⟩
        · simp only [if_neg h7, if_neg h0, if_neg hq2]; exact ⟨rfl, fun e => by cases e⟩
/-- How many lines begin in a text. -/
def linesOf (s : ByteArray) : Nat := (startsTo s.data.toList s.data.toList.length).length
/-- The first text is gone through. -/
theorem first_on {s t u : ByteArray} (hu : Joined s t u) : ∀ (m : Nat) (st : St) (c : Cur), mu st c ≤ m → Inv st c → Inv st (c.on u) → st ≠ .none → At c → c.s = s →
    ((final st c).err ≠ 0 ∧ final st (c.on u) = (final st c).on u) ∨
    ((final st c).err = 0 ∧ final st (c.on u) = final .any ((final st c).down.on u) ∧ Inv .any ((final st c).down.on u) ∧ (final st c).pos = s.size ∧ (final st c).line = linesOf s) := by
  intro m
  induction m with
  | zero =>
    intro st c hm _ _ hs
    cases st <;> simp only [mu] at hm <;> first | omega | exact absurd rfl hs
  | succ m ih =>
    intro st c hm hi hi2 hs ha hcs
    obtain ⟨h1, h2⟩ := step_inv hi hs
    obtain ⟨h3, h4⟩ := step_inv hi2 hs
    by_cases hne : st = .end_ ∧ c.pos = c.s.size
    · obtain ⟨rfl, hp⟩ := hne
      obtain ⟨c1, c2, c3, c4, c5, c6, c7⟩ := ha.close hi.ok (.inl hp)
      have hst : stepSt .end_ c = (.none, c.close) := by
        show stepEnd c = _
        unfold stepEnd
        rw [if_pos hp]
      have hsu : stepSt .end_ (c.on u) = (.any, c.close.down.on u) := by
        have hz := hu.size
        show stepEnd (c.on u) = _
        unfold stepEnd
        rw [if_neg (by show ¬ c.pos = u.size; rw [hcs] at hp; omega), on_close]
        rfl
      rw [final_step hi hs, final_step hi2 hs, hst, hsu, final_none]
      rw [hsu] at h3
      refine .inr ⟨c3, rfl, h3.resolve_left St.noConfusion, by rw [c5, hp, hcs], ?_⟩
      obtain ⟨pre, p1, p2⟩ := ha.at_
      rw [c4, ← p2]
      unfold linesOf
      rw [hcs] at p1 hp
      rw [Nm.len_size, ← hp, p1, List.length_append, List.length_singleton]
    · obtain ⟨e1, e2⟩ := step_on hi hs (by rw [hcs]; exact hu) hne
      rw [final_step hi hs, final_step hi2 hs, e1]
      rw [e1] at h3 h4
      by_cases hn : (stepSt st c).1 = .none
      · have := e2 hn
        rw [hn, final_none, final_none]
        exact .inl ⟨this, rfl⟩
      · refine ih _ _ (by omega) (h1.resolve_left hn) (h3.resolve_left hn) hn ?_ (by rw [stepSt_s, hcs])
        rcases at_step hi ha hs with h | h
        · exact absurd h.1 hn
        · exact h.2
def mvT (n : Nat) (x : TokD) : TokD := { x with line := x.line + n }
/-- A cursor of the second text as it is in both. -/
def Cur.shift (c : Cur) (u : ByteArray) (n k : Nat) (a : List TokD) (x y : Int) : Cur :=
  ⟨u, c.line + n, c.org + k, c.pos + k, a ++ c.out.map (mvT n), c.some, c.err, if c.err = 0 then x else c.fl + n, if c.err = 0 then y else c.fc⟩
section
variable {s t u : ByteArray} {n : Nat} {a : List TokD} {x y : Int}
theorem shift_rest {c : Cur} (h : Joined s c.s u) : (c.shift u n (s.size + 1) a x y).rest = c.rest := by
  show u.data.toList.drop (c.pos + (s.size + 1)) = c.s.data.toList.drop c.pos
  rw [h, show s.data.toList ++ 10 :: c.s.data.toList = (s.data.toList ++ [10]) ++ c.s.data.toList by simp, List.drop_append, List.drop_eq_nil_of_le (by simp)]
  simp
theorem shift_byte {c : Cur} (h : Joined s c.s u) : (c.shift u n (s.size + 1) a x y).byte = c.byte := by
  show u.data.toList.getD (c.pos + (s.size + 1)) 0 = c.s.data.toList.getD c.pos 0
  rw [h, show s.data.toList ++ 10 :: c.s.data.toList = (s.data.toList ++ [10]) ++ c.s.data.toList by simp, List.getD_eq_getElem?_getD, List.getD_eq_getElem?_getD, List.getElem?_append_right (by simp)]
  simp
theorem shift_fail (c : Cur) (k : Nat) (e : Int) (he : e ≠ 0) (p : Nat) : (c.shift u n k a x y).fail e (p + k) = (c.fail e p).shift u n k a x y := by
  unfold Cur.fail Cur.shift Cur.col
  simp only [if_neg he, Cur.mk.injEq, true_and]
  exact ⟨by push_cast; rfl, by push_cast; omega⟩
theorem shift_put (c : Cur) (k : Nat) (kind : Int) (text : List UInt8) (num : Int) (m : Nat) : (c.shift u n k a x y).put kind text num m = (c.put kind text num m).shift u n k a x y := by
  unfold Cur.put Cur.shift Cur.col
  simp only [Cur.mk.injEq, and_true, true_and, List.map_append, List.append_assoc, List.map_cons, List.map_nil]
  refine ⟨by omega, ?_⟩
  congr 2
  unfold mvT
  simp only [List.cons.injEq, TokD.mk.injEq, and_true, true_and]
  exact ⟨by push_cast; rfl, by push_cast; omega⟩
theorem shift_close (c : Cur) (k : Nat) : (c.shift u n k a x y).close = c.close.shift u n k a x y := by
  unfold Cur.close
  show (if c.some = true then _ else _) = _
  split
  · exact shift_put c k 4 [] 0 0
  · rfl
theorem step_shift {st : St} {c : Cur} (hs : st ≠ .none) (hu : Joined s c.s u) :
    stepSt st (c.shift u n (s.size + 1) a x y) = ((stepSt st c).1, (stepSt st c).2.shift u n (s.size + 1) a x y) := by
  have hz := hu.size
  have hpu : (c.shift u n (s.size + 1) a x y).pos = c.pos + (s.size + 1) := rfl
  have hsu : (c.shift u n (s.size + 1) a x y).s = u := rfl
  cases st with
  | none => exact absurd rfl hs
  | any =>
    show stepAny (c.shift u n (s.size + 1) a x y) = ((stepAny c).1, (stepAny c).2.shift u n (s.size + 1) a x y)
    unfold stepAny
    rw [shift_byte hu, hpu, hsu]
    have e1 : (c.pos + (s.size + 1) = u.size ∨ c.byte = 10) ↔ (c.pos = c.s.size ∨ c.byte = 10) := by
      constructor
      · rintro (h | h)
        · exact .inl (by omega)
        · exact .inr h
      · rintro (h | h)
        · exact .inl (by omega)
        · exact .inr h
    simp only [e1]
    by_cases h1 : c.pos = c.s.size ∨ c.byte = 10
    · simp only [if_pos h1]
    · simp only [if_neg h1]
      by_cases h2 : c.byte = 35
      · simp only [if_pos h2]
      · simp only [if_neg h2]
        by_cases h3 : c.byte = 32 ∨ c.byte = 9
        · simp only [if_pos h3]
          unfold Cur.shift
          simp only [Prod.mk.injEq, Cur.mk.injEq, and_true, true_and]
          omega
        · simp only [if_neg h3]
          by_cases h4 : Nm.cls c.byte = 1
          · simp only [if_pos h4]
          · simp only [if_neg h4]
            by_cases h5 : Nm.cls c.byte = 2
            · simp only [if_pos h5]
            · simp only [if_neg h5, shift_fail c _ 7 (by decide)]
  | end_ =>
    show stepEnd (c.shift u n (s.size + 1) a x y) = ((stepEnd c).1, (stepEnd c).2.shift u n (s.size + 1) a x y)
    unfold stepEnd
    rw [hpu, hsu, shift_close]
    by_cases h1 : c.pos = c.s.size
    · rw [if_pos (by omega), if_pos h1]
    · rw [if_neg (by omega), if_neg h1]
      unfold Cur.down Cur.shift
      simp only [Prod.mk.injEq, Cur.mk.injEq, and_true, true_and]
      exact ⟨by omega, by omega, by omega⟩
  | remark =>
    show stepRemark (c.shift u n (s.size + 1) a x y) = ((stepRemark c).1, (stepRemark c).2.shift u n (s.size + 1) a x y)
    unfold stepRemark
    have he : (c.shift u n (s.size + 1) a x y).eol = c.eol + (s.size + 1) := by
      show c.pos + (s.size + 1) + Nm.pre (fun b => b != 10) (c.shift u n (s.size + 1) a x y).rest = c.pos + Nm.pre (fun b => b != 10) c.rest + (s.size + 1)
      rw [shift_rest hu]
      omega
    rw [he]
    rfl
  | word =>
    show stepWord (c.shift u n (s.size + 1) a x y) = ((stepWord c).1, (stepWord c).2.shift u n (s.size + 1) a x y)
    unfold stepWord
    rw [shift_rest hu, hpu]
    by_cases h24 : 24 < Nm.pre Nm.more c.rest
    · simp only [if_pos h24, shift_fail c _ 3 (by decide)]
    · simp only [if_neg h24, shift_put]
  | number =>
    show stepNumber (c.shift u n (s.size + 1) a x y) = ((stepNumber c).1, (stepNumber c).2.shift u n (s.size + 1) a x y)
    unfold stepNumber
    rw [shift_rest hu, hpu]
    by_cases h7 : Tk.parseE (c.rest.take (Nm.pre Nm.dig c.rest)) = 7
    · simp only [if_pos h7, shift_fail c _ 7 (by decide)]
    · by_cases h0 : Tk.parseE (c.rest.take (Nm.pre Nm.dig c.rest)) ≠ 0
      · simp only [if_neg h7, if_pos h0, shift_fail c _ 3 (by decide)]
      · by_cases hq2 : Nm.pre Nm.dig c.rest < c.rest.length ∧ Nm.cls (c.rest.getD (Nm.pre Nm.dig c.rest) 0) ≠ 0
        · simp only [if_neg h7, if_neg h0, if_pos hq2]
          rw [show c.pos + (s.size + 1) + Nm.pre Nm.dig c.rest = c.pos + Nm.pre Nm.dig c.rest + (s.size + 1) by omega, shift_fail c _ 7 (by decide)]
        · simp only [if_neg h7, if_neg h0, if_neg hq2, shift_put]
/-- The second text is gone through. -/
theorem second_on : ∀ (m : Nat) (st : St) (c : Cur), mu st c ≤ m → (st = .none ∨ Inv st c) → (st = .none ∨ Inv st (c.shift u n (s.size + 1) a x y)) → Joined s c.s u →
    final st (c.shift u n (s.size + 1) a x y) = (final st c).shift u n (s.size + 1) a x y := by
  intro m
  induction m with
  | zero =>
    intro st c hm _ _ _
    cases st <;> simp only [mu] at hm <;> first | omega | rfl
  | succ m ih =>
    intro st c hm hi hi2 hu
    by_cases hs : st = .none
    · subst hs; rfl
    · have hj := hi.resolve_left hs
      have hj2 := hi2.resolve_left hs
      obtain ⟨h1, h2⟩ := step_inv hj hs
      obtain ⟨h3, h4⟩ := step_inv hj2 hs
      have e1 := step_shift (n := n) (a := a) (x := x) (y := y) hs hu
      rw [final_step hj hs, final_step hj2 hs, e1]
      rw [e1] at h3
      exact ih _ _ (by show mu (stepSt st c).1 (stepSt st c).2 ≤ m; omega) h1 h3 (by rw [stepSt_s]; exact hu)
end
/-- Two texts are cut one by one. -/
theorem joins {s t u : ByteArray} (hu : Joined s t u) (hz : u.size ≤ 65536) :
    ((allD s).2.err ≠ 0 → allD u = ([], (allD s).2)) ∧
    ((allD s).2.err = 0 → (allD t).2.err ≠ 0 → allD u = ([], ⟨(allD t).2.err, (allD t).2.line + (linesOf s : Int), (allD t).2.col⟩)) ∧
    ((allD s).2.err = 0 → (allD t).2.err = 0 → allD u = ((allD s).1 ++ (allD t).1.map (mvT (linesOf s)), ⟨0, 0, 0⟩)) := by
  have hsz := hu.size
  have hs : s.size ≤ 65536 := by omega
  have ht : t.size ≤ 65536 := by omega
  have h1 := first_on hu _ .any (Cur.start s) (Nat.le_refl _) (start_inv s hs) (start_inv u hz) St.noConfusion (at_start s) rfl
  have hf : lexed u = final .any ((Cur.start s).on u) := rfl
  have hfs : lexed s = final .any (Cur.start s) := rfl
  have hft : lexed t = final .any (Cur.start t) := rfl
  rw [← hf, ← hfs] at h1
  unfold allD
  rw [if_neg (by omega : ¬ 65536 < s.size), if_neg (by omega : ¬ 65536 < t.size), if_neg (by omega : ¬ 65536 < u.size)]
  rcases h1 with ⟨h1, h2⟩ | ⟨h1, h2, h3, h4, h5⟩
  · have e : (lexed u).err ≠ 0 := by rw [h2]; exact h1
    rw [if_pos h1, if_pos e, h2]
    exact ⟨fun _ => rfl, fun h => absurd h h1, fun h => absurd h h1⟩
  · have hsh : (lexed s).down.on u = (Cur.start t).shift u (linesOf s) (s.size + 1) (lexed s).out (lexed s).fl (lexed s).fc := by
      unfold Cur.down Cur.on Cur.shift Cur.start
      simp only [Cur.mk.injEq, List.map_nil, List.append_nil, if_true, and_true, true_and]
      exact ⟨by omega, by omega, by omega, h1⟩
    rw [hsh] at h2 h3
    rw [second_on _ _ _ (Nat.le_refl _) (.inr (start_inv t ht)) (.inr h3) hu, ← hft] at h2
    rw [if_neg (fun h => h h1)]
    by_cases he : (lexed t).err = 0
    · have e : (lexed u).err = 0 := by rw [h2]; exact he
      rw [if_neg (fun h => h e), if_neg (fun h => h he), h2]
      exact ⟨fun h => absurd rfl h, fun _ h => absurd rfl h, fun _ _ => rfl⟩
    · have e : (lexed u).err ≠ 0 := by rw [h2]; exact he
      rw [if_pos e, if_pos he, h2]
      refine ⟨fun h => absurd rfl h, fun _ _ => ?_, fun _ h => absurd h he⟩
      unfold Cur.shift
      simp only [if_neg he]
end Go.Proofs.YtlclkeihkkpdbaaGreatDoor
