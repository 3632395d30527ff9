/- The lexer as a machine: its steps end (plain). -/
import Derived.Test.YtlclkeihkkpdbaaGreatDoorLm
namespace Go.Proofs.YtlclkeihkkpdbaaGreatDoor
open Go.RowKit

def stepSt : St → Cur → St × Cur
  | .any, c => stepAny c
  | .end_, c => stepEnd c
  | .remark, c => stepRemark c
  | .word, c => stepWord c
  | .number, c => stepNumber c
  | .none, c => (.none, c)
def runs : Nat → St → Cur → St × Cur
  | 0, st, c => (st, c)
  | n + 1, st, c => if st = .none then (.none, c) else runs n (stepSt st c).1 (stepSt st c).2
def mu (st : St) (c : Cur) : Nat :=
  match st with
  | .none => 0
  | .any => 2 * (c.s.size - c.pos) + 2
  | _ => 2 * (c.s.size - c.pos) + 1
/-- What may be at a state. -/
structure Inv (st : St) (c : Cur) : Prop where
  ok : c.Ok
  out : c.out.length + (if c.some = true then 1 else 0) ≤ 2 * c.pos
  end_ : st = .end_ → c.pos = c.s.size ∨ c.byte = 10
  remark : st = .remark → c.pos < c.s.size ∧ c.byte = 35
  word : st = .word → c.pos < c.s.size ∧ Nm.cls c.byte = 1
  number : st = .number → c.pos < c.s.size ∧ Nm.cls c.byte = 2
theorem rest_head (c : Cur) (h : c.pos < c.s.size) : c.rest = c.byte :: c.s.data.toList.drop (c.pos + 1) := by
  have hl : c.pos < c.s.data.toList.length := by rw [Nm.len_size]; exact h
  unfold Cur.rest Cur.byte
  rw [List.drop_eq_getElem_cons hl, List.getD_eq_getElem?_getD, List.getElem?_eq_getElem hl]
  rfl
theorem pre_pos (p : UInt8 → Bool) (a : UInt8) (l : List UInt8) (h : p a = true) : 1 ≤ Nm.pre p (a :: l) := by
  unfold Nm.pre
  rw [List.takeWhile_cons, if_pos h, List.length_cons]
  omega
theorem cls_one {b : UInt8} (h : Nm.cls b = 1) : Nm.more b = true := by rw [← Nm.cls_more, h]; rfl
theorem cls_two {b : UInt8} (h : Nm.cls b = 2) : Nm.dig b = true := by rw [← Nm.cls_dig, h]; rfl
theorem inv_any {c : Cur} (h : c.Ok) (ho : c.out.length + (if c.some = true then 1 else 0) ≤ 2 * c.pos) : Inv .any c := ⟨h, ho, fun e => (by cases e), fun e => (by cases e), fun e => (by cases e), fun e => (by cases e)⟩
theorem put_ok {c : Cur} (h : c.Ok) (k : Int) (t : List UInt8) (v : Int) (n : Nat) (hn : c.pos + n ≤ c.s.size) : (c.put k t v n).Ok :=
  ⟨h.size, hn, by show c.org ≤ c.pos + n; have := h.org; omega, by show c.line ≤ c.pos + n + 1; have := h.line; omega⟩
theorem step_inv {st : St} {c : Cur} (h : Inv st c) (hs : st ≠ .none) : ((stepSt st c).1 = .none ∨ Inv (stepSt st c).1 (stepSt st c).2) ∧ mu (stepSt st c).1 (stepSt st c).2 < mu st c := by
  have ok := h.ok
  have k1 := ok.size
  have k2 := ok.pos
  have k3 := ok.org
  have k4 := ok.line
  have ho := h.out
  cases st with
  | none => exact absurd rfl hs
  | any =>
    show ((stepAny c).1 = .none ∨ Inv (stepAny c).1 (stepAny c).2) ∧ mu (stepAny c).1 (stepAny c).2 < 2 * (c.s.size - c.pos) + 2
    unfold stepAny
    by_cases h1 : c.pos = c.s.size ∨ c.byte = 10
    · rw [if_pos h1]
      exact ⟨.inr ⟨ok, ho, fun _ => h1, fun e => (by cases e), fun e => (by cases e), fun e => (by cases e)⟩, by show 2 * (c.s.size - c.pos) + 1 < _; omega⟩
    · rw [if_neg h1]
      have hlt : c.pos < c.s.size := by have : c.pos ≠ c.s.size := fun e => h1 (.inl e); omega
      by_cases h2 : c.byte = 35
      · rw [if_pos h2]
        exact ⟨.inr ⟨ok, ho, fun e => (by cases e), fun _ => ⟨hlt, h2⟩, fun e => (by cases e), fun e => (by cases e)⟩, by show 2 * (c.s.size - c.pos) + 1 < _; omega⟩
      · rw [if_neg h2]
        by_cases h3 : c.byte = 32 ∨ c.byte = 9
        · rw [if_pos h3]
          refine ⟨.inr (inv_any ⟨k1, hlt, by show c.org ≤ c.pos + 1; omega, by show c.line ≤ c.pos + 1 + 1; omega⟩ (by show c.out.length + (if c.some = true then 1 else 0) ≤ 2 * (c.pos + 1); omega)), by show 2 * (c.s.size - (c.pos + 1)) + 2 < _; omega⟩
        · rw [if_neg h3]
          by_cases h4 : Nm.cls c.byte = 1
          · rw [if_pos h4]
            exact ⟨.inr ⟨ok, ho, fun e => (by cases e), fun e => (by cases e), fun _ => ⟨hlt, h4⟩, fun e => (by cases e)⟩, by show 2 * (c.s.size - c.pos) + 1 < _; omega⟩
          · rw [if_neg h4]
            by_cases h5 : Nm.cls c.byte = 2
            · rw [if_pos h5]
              exact ⟨.inr ⟨ok, ho, fun e => (by cases e), fun e => (by cases e), fun e => (by cases e), fun _ => ⟨hlt, h5⟩⟩, by show 2 * (c.s.size - c.pos) + 1 < _; omega⟩
            · rw [if_neg h5]
              exact ⟨.inl rfl, by show 0 < _; omega⟩
  | end_ =>
    show ((stepEnd c).1 = .none ∨ Inv (stepEnd c).1 (stepEnd c).2) ∧ mu (stepEnd c).1 (stepEnd c).2 < 2 * (c.s.size - c.pos) + 1
    unfold stepEnd
    by_cases h1 : c.pos = c.s.size
    · rw [if_pos h1]
      exact ⟨.inl rfl, by show 0 < _; omega⟩
    · rw [if_neg h1]
      have hlt : c.pos < c.s.size := by omega
      unfold Cur.close Cur.down
      rcases hsm : c.some
      · rw [hsm] at ho
        simp only [Bool.false_eq_true, if_false] at ho ⊢
        refine ⟨.inr (inv_any ⟨k1, hlt, Nat.le_refl _, by show c.line + 1 ≤ c.pos + 1 + 1; omega⟩ (by show c.out.length + 0 ≤ 2 * (c.pos + 1); omega)), by show 2 * (c.s.size - (c.pos + 1)) + 2 < _; omega⟩
      · rw [hsm] at ho
        simp only [if_true] at ho ⊢
        refine ⟨.inr (inv_any ⟨k1, hlt, Nat.le_refl _, by show c.line + 1 ≤ c.pos + 0 + 1 + 1; omega⟩ (by show (c.out ++ [_]).length + 0 ≤ 2 * (c.pos + 0 + 1); rw [List.length_append]; simp only [List.length_cons, List.length_nil]; omega)), by show 2 * (c.s.size - (c.pos + 0 + 1)) + 2 < _; omega⟩
  | remark =>
    obtain ⟨hlt, hb⟩ := h.remark rfl
    have he := eol_spec c k2
    have hp : c.pos < c.eol := by
      have := pre_pos (fun b => b != 10) c.byte (c.s.data.toList.drop (c.pos + 1)) (by rw [hb]; decide)
      rw [← rest_head c hlt] at this
      unfold Cur.eol
      unfold Cur.rest at this
      omega
    have h1 := he.1
    show (St.any = .none ∨ Inv .any (c.go c.eol)) ∧ 2 * (c.s.size - c.eol) + 2 < 2 * (c.s.size - c.pos) + 1
    refine ⟨.inr (inv_any ⟨k1, h1, by show c.org ≤ c.eol; omega, by show c.line ≤ c.eol + 1; omega⟩ (by show c.out.length + (if c.some = true then 1 else 0) ≤ 2 * c.eol; omega)), by omega⟩
  | word =>
    obtain ⟨hlt, hb⟩ := h.word rfl
    have hn : 1 ≤ Nm.pre Nm.more c.rest := by rw [rest_head c hlt]; exact pre_pos _ _ _ (cls_one hb)
    have hle := Nm.pre_le Nm.more c.rest
    have hrl : c.rest.length = c.s.size - c.pos := by unfold Cur.rest; rw [List.length_drop, Nm.len_size]
    show ((stepWord c).1 = .none ∨ Inv (stepWord c).1 (stepWord c).2) ∧ mu (stepWord c).1 (stepWord c).2 < 2 * (c.s.size - c.pos) + 1
    unfold stepWord
    generalize Nm.pre Nm.more c.rest = n at *
    show ((if 24 < n then (St.none, c.fail 3 c.pos) else (.any, c.put (if Nm.res (c.rest.take n) = true then 2 else 1) (c.rest.take n) 0 n)).1 = .none ∨ _) ∧ _
    by_cases h24 : 24 < n
    · rw [if_pos h24]
      exact ⟨.inl rfl, by show 0 < _; omega⟩
    · rw [if_neg h24]
      refine ⟨.inr (inv_any (put_ok ok _ _ _ _ (by omega)) (by show (c.out ++ [_]).length + 1 ≤ 2 * (c.pos + n); rw [List.length_append]; simp only [List.length_cons, List.length_nil]; split at ho <;> omega)), by show 2 * (c.s.size - (c.pos + n)) + 2 < _; omega⟩
  | number =>
    obtain ⟨hlt, hb⟩ := h.number rfl
    have hn : 1 ≤ Nm.pre Nm.dig c.rest := by rw [rest_head c hlt]; exact pre_pos _ _ _ (cls_two hb)
    have hle := Nm.pre_le Nm.dig c.rest
    have hrl : c.rest.length = c.s.size - c.pos := by unfold Cur.rest; rw [List.length_drop, Nm.len_size]
    show ((stepNumber c).1 = .none ∨ Inv (stepNumber c).1 (stepNumber c).2) ∧ mu (stepNumber c).1 (stepNumber c).2 < 2 * (c.s.size - c.pos) + 1
    unfold stepNumber
    generalize Nm.pre Nm.dig c.rest = n at *
    by_cases h7 : Tk.parseE (c.rest.take n) = 7
    · simp only [if_pos h7]
      exact ⟨.inl trivial, by show 0 < _; omega⟩
    · by_cases h0 : Tk.parseE (c.rest.take n) ≠ 0
      · simp only [if_neg h7, if_pos h0]
        exact ⟨.inl trivial, by show 0 < _; omega⟩
      · by_cases hq : n < c.rest.length ∧ Nm.cls (c.rest.getD n 0) ≠ 0
        · simp only [if_neg h7, if_neg h0, if_pos hq]
          exact ⟨.inl trivial, by show 0 < _; omega⟩
        · simp only [if_neg h7, if_neg h0, if_neg hq]
          refine ⟨.inr (inv_any (put_ok ok _ _ _ _ (by omega)) (by show (c.out ++ [_]).length + 1 ≤ 2 * (c.pos + n); rw [List.length_append]; simp only [List.length_cons, List.length_nil]; split at ho <;> omega)), by show 2 * (c.s.size - (c.pos + n)) + 2 < _; omega⟩
/-- From so many steps on nothing changes, and the machine stands. -/
theorem runs_stable : ∀ (m : Nat) {st : St} {c : Cur}, (st = .none ∨ Inv st c) → mu st c ≤ m → ∀ n, mu st c ≤ n → runs n st c = runs m st c ∧ (runs n st c).1 = .none := by
  intro m
  induction m with
  | zero =>
    intro st c h hm n hn
    cases st <;> simp only [mu] at hm <;> try omega
    cases n <;> simp [runs]
  | succ m ih =>
    intro st c h hm n hn
    by_cases hst : st = .none
    · subst hst
      cases n <;> simp [runs]
    · have hi : Inv st c := h.resolve_left hst
      obtain ⟨h1, h2⟩ := step_inv hi hst
      cases n with
      | zero => cases st <;> simp only [mu] at hn <;> first | omega | exact absurd rfl hst
      | succ n =>
        have h3 := ih h1 (by omega) n (by omega)
        simp only [runs, if_neg hst]
        exact h3
def Cur.start (s : ByteArray) : Cur := ⟨s, 1, 0, 0, [], false, 0, 0, 0⟩
theorem start_inv (s : ByteArray) (h : s.size ≤ 65536) : Inv .any (Cur.start s) := inv_any ⟨h, Nat.zero_le _, Nat.le_refl _, Nat.le_refl _⟩ (Nat.le_refl _)
/-- The cursor where the machine stands. -/
def lexed (s : ByteArray) : Cur := (runs (2 * s.size + 2) .any (Cur.start s)).2
structure FaultD where
  err : Int
  line : Int
  col : Int
deriving DecidableEq
/-- What lex.All tells. -/
def allD (s : ByteArray) : List TokD × FaultD :=
  if 65536 < s.size then ([], ⟨3, 1, 1⟩) else if (lexed s).err ≠ 0 then ([], ⟨(lexed s).err, (lexed s).fl, (lexed s).fc⟩) else ((lexed s).out, ⟨0, 0, 0⟩)
end Go.Proofs.YtlclkeihkkpdbaaGreatDoor
