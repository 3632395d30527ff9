/- Where tokens stand (plain): the law LexPlaces of the machine. -/
import Derived.Test.YteonefgbdphmiaaGreatDoorLo
import Derived.Test.YteonefgbdphmiaaGreatDoorTq
namespace Go.Proofs.YteonefgbdphmiaaGreatDoor
open Go.RowKit
/-- Where the lines that begin ahead of n, or at it, begin. -/
def startsTo (L : List UInt8) (n : Nat) : List Nat := 0 :: ((List.range n).filter (fun j => L.getD j 0 == 10)).map (· + 1)
theorem startsTo_yes (L : List UInt8) (n : Nat) (h : L.getD n 0 = 10) : startsTo L (n + 1) = startsTo L n ++ [n + 1] := by
  unfold startsTo
  rw [List.range_succ, List.filter_append, List.map_append, List.filter_cons_of_pos (by simpa using h)]
  rfl
theorem startsTo_no (L : List UInt8) (n : Nat) (h : L.getD n 0 ≠ 10) : startsTo L (n + 1) = startsTo L n := by
  unfold startsTo
  rw [List.range_succ, List.filter_append, List.map_append, List.filter_cons_of_neg (by simpa using h)]
  simp
theorem startsTo_prefix (L : List UInt8) (n k : Nat) : ∃ r, startsTo L (n + k) = startsTo L n ++ r := by
  induction k with
  | zero => exact ⟨[], by simp⟩
  | succ k ih =>
    obtain ⟨r, h⟩ := ih
    by_cases h1 : L.getD (n + k) 0 = 10
    · exact ⟨r ++ [n + k + 1], by rw [← Nat.add_assoc, startsTo_yes L _ h1, h, List.append_assoc]⟩
    · exact ⟨r, by rw [← Nat.add_assoc, startsTo_no L _ h1, h]⟩
theorem startsTo_skip (L : List UInt8) (p n : Nat) (h : ∀ j, p ≤ j → j < p + n → L.getD j 0 ≠ 10) : startsTo L (p + n) = startsTo L p := by
  induction n with
  | zero => rfl
  | succ n ih => rw [← Nat.add_assoc, startsTo_no L _ (h (p + n) (by omega) (by omega)), ih fun j h1 h2 => h j h1 (by omega)]
/-- A token stands in the text at its place. -/
def TokAt (L : List UInt8) (t : TokD) : Prop :=
  ∃ ln cl og : Nat, t.line = (ln : Int) + 1 ∧ t.col = (cl : Int) + 1 ∧ (startsTo L L.length)[ln]? = some og ∧
    ((t.kind = 4 ∧ t.text = [] ∧ og + cl ≤ L.length ∧ (og + cl < L.length → L.getD (og + cl) 0 = 10)) ∨
     (t.kind ≠ 4 ∧ 0 < t.text.length ∧ og + cl + t.text.length ≤ L.length ∧ (L.drop (og + cl)).take t.text.length = t.text))
/-- One token behind another one. -/
def Behind (p t : TokD) : Prop := (p.line < t.line ∨ (p.line = t.line ∧ p.col < t.col)) ∧ (t.kind = 4 → p.kind ≠ 4 ∧ p.line = t.line) ∧ (t.kind ≠ 4 → p.kind ≠ 4 → p.line = t.line)
def Pl (L : List UInt8) (l : List TokD) : Prop := ∀ i t, l[i]? = some t → TokAt L t ∧ (i = 0 → t.kind ≠ 4) ∧ ∀ p, 0 < i → l[i - 1]? = some p → Behind p t
theorem Pl.nil (L : List UInt8) : Pl L [] := fun i t h => by simp at h
theorem Pl.snoc {L : List UInt8} {l : List TokD} {t : TokD} (h : Pl L l) (h1 : TokAt L t) (h2 : l = [] → t.kind ≠ 4) (h3 : ∀ p, l.getLast? = some p → Behind p t) : Pl L (l ++ [t]) := by
  intro i x hx
  rw [List.getElem?_append] at hx
  split at hx
  · rename_i hi
    obtain ⟨k1, k2, k3⟩ := h i x hx
    refine ⟨k1, k2, fun p hp hq => ?_⟩
    rw [List.getElem?_append_left (by omega)] at hq
    exact k3 p hp hq
  · rename_i hi
    have hil : i = l.length := by
      rcases Nat.eq_or_lt_of_le (Nat.le_of_not_lt hi) with h | h
      · exact h.symm
      · rw [List.getElem?_eq_none (by simp; omega)] at hx; simp at hx
    subst hil
    simp at hx
    subst hx
    refine ⟨h1, fun e => h2 (List.eq_nil_of_length_eq_zero e), fun p hp hq => h3 p ?_⟩
    rw [List.getElem?_append_left (by omega)] at hq
    rw [List.getLast?_eq_getElem?]
    exact hq
theorem list_len (c : Cur) : c.s.data.toList.length = c.s.size := Nm.len_size _
theorem pre_at (p : UInt8 → Bool) (L : List UInt8) (k j : Nat) (h1 : k ≤ j) (h2 : j < k + Nm.pre p (L.drop k)) : p (L.getD j 0) = true := by
  have hle := Nm.pre_le p (L.drop k)
  have := (pre_spec p (L.drop k)).1 (j - k) (by omega) (by omega)
  rw [List.length_drop] at hle
  rw [List.getElem_drop] at this
  simp only [show k + (j - k) = j from by omega] at this
  rw [List.getD_eq_getElem?_getD, List.getElem?_eq_getElem (by omega)]
  exact this
/-- What is true wherever the machine is. -/
structure At (c : Cur) : Prop where
  err : c.err = 0
  at_ : ∃ pre, startsTo c.s.data.toList c.pos = pre ++ [c.org] ∧ pre.length + 1 = c.line
  pl : Pl c.s.data.toList c.out
  last1 : c.some = true → ∃ t, c.out.getLast? = some t ∧ t.kind ≠ 4 ∧ t.line = c.line ∧ t.col + c.org ≤ c.pos
  last0 : c.some = false → ∀ t, c.out.getLast? = some t → t.kind = 4 ∧ t.line < c.line
/-- What is true where it stands. -/
def Fin (c : Cur) : Prop := (c.err ≠ 0 → 1 ≤ c.fl ∧ 1 ≤ c.fc) ∧ (c.err = 0 → Pl c.s.data.toList c.out ∧ ∀ t, c.out.getLast? = some t → t.kind = 4)
theorem At.place {c : Cur} (h : At c) (hp : c.pos ≤ c.s.size) : (startsTo c.s.data.toList c.s.data.toList.length)[c.line - 1]? = some c.org := by
  obtain ⟨pre, h1, h2⟩ := h.at_
  obtain ⟨r, h3⟩ := startsTo_prefix c.s.data.toList c.pos (c.s.size - c.pos)
  rw [show c.pos + (c.s.size - c.pos) = c.s.data.toList.length by rw [list_len]; omega, h1] at h3
  rw [h3, show c.line - 1 = pre.length by omega, List.append_assoc, List.getElem?_append_right (Nat.le_refl _)]
  simp
theorem At.line {c : Cur} (h : At c) : 1 ≤ c.line := by
  obtain ⟨pre, h1, h2⟩ := h.at_
  omega
/-- A token is put. -/
theorem At.put {c : Cur} (h : At c) (ok : c.Ok) (k : Int) (v : Int) (n : Nat) (p : UInt8 → Bool) (hp : p 10 = false) (hk : k ≠ 4) (hn : 0 < n) (hnp : n = Nm.pre p c.rest) : At (c.put k (c.rest.take n) v n) := by
  have hle := Nm.pre_le p c.rest
  have hrl : c.rest.length = c.s.size - c.pos := by unfold Cur.rest; rw [List.length_drop, Nm.len_size]
  have k2 := ok.pos
  have k3 := ok.org
  have hl := h.line
  have hlen : (c.rest.take n).length = n := by rw [List.length_take]; omega
  refine ⟨h.err, ?_, ?_, fun _ => ⟨⟨k, c.rest.take n, v, c.line, c.col c.pos⟩, ?_, hk, rfl, ?_⟩, fun e => (by cases e)⟩
  · obtain ⟨pre, h1, h2⟩ := h.at_
    refine ⟨pre, ?_, h2⟩
    show startsTo c.s.data.toList (c.pos + n) = pre ++ [c.org]
    rw [startsTo_skip _ _ _ fun j h3 h4 e => ?_, h1]
    have := pre_at p c.s.data.toList c.pos j h3 (by rw [hnp] at h4; exact h4)
    rw [e, hp] at this
    cases this
  · refine h.pl.snoc ⟨c.line - 1, c.pos - c.org, c.org, ?_, ?_, h.place k2, .inr ⟨hk, ?_, ?_, ?_⟩⟩ (fun _ => hk) fun q hq => ?_
    · show (c.line : Int) = _; omega
    · show (c.pos : Int) - c.org + 1 = _; omega
    · show 0 < (c.rest.take n).length; omega
    · show c.org + (c.pos - c.org) + (c.rest.take n).length ≤ _
      rw [hlen, list_len]; omega
    · show (c.s.data.toList.drop (c.org + (c.pos - c.org))).take (c.rest.take n).length = c.rest.take n
      rw [hlen, show c.org + (c.pos - c.org) = c.pos by omega]
      rfl
    · rcases hs : c.some
      · obtain ⟨h5, h6⟩ := h.last0 hs q hq
        exact ⟨.inl h6, fun e => absurd e hk, fun _ e => absurd h5 e⟩
      · obtain ⟨t, h5, h6, h7, h8⟩ := h.last1 hs
        rw [hq] at h5
        injection h5 with h5
        subst h5
        exact ⟨.inr ⟨h7, by show q.col < (c.pos : Int) - c.org + 1; omega⟩, fun e => absurd e hk, fun _ _ => h7⟩
  · show (c.out ++ [_]).getLast? = _
    simp
  · show (c.pos : Int) - c.org + 1 + c.org ≤ ((c.pos + n : Nat) : Int)
    omega
theorem At.close {c : Cur} (h : At c) (ok : c.Ok) (hb : c.pos = c.s.size ∨ c.byte = 10) : Pl c.s.data.toList c.close.out ∧ (∀ t, c.close.out.getLast? = some t → t.kind = 4 ∧ t.line < (c.line : Int) + 1) ∧ c.close.err = 0 ∧ c.close.line = c.line ∧ c.close.pos = c.pos ∧ c.close.s = c.s ∧ c.close.org = c.org := by
  have k2 := ok.pos
  have k3 := ok.org
  have hl := h.line
  unfold Cur.close
  rcases hs : c.some
  · simp only [Bool.false_eq_true, if_false]
    exact ⟨h.pl, fun t ht => ⟨(h.last0 hs t ht).1, by have := (h.last0 hs t ht).2; omega⟩, h.err, by trivial, by trivial, by trivial, by trivial⟩
  · simp only [if_true]
    obtain ⟨t, h5, h6, h7, h8⟩ := h.last1 hs
    refine ⟨h.pl.snoc ⟨c.line - 1, c.pos - c.org, c.org, ?_, ?_, h.place k2, .inl ⟨rfl, rfl, ?_, fun h9 => ?_⟩⟩ (fun e => ?_) fun q hq => ?_, fun x hx => ?_, h.err, rfl, Nat.add_zero _, rfl, rfl⟩
    · show (c.line : Int) = _; omega
    · show (c.pos : Int) - c.org + 1 = _; omega
    · rw [list_len]; omega
    · rw [show c.org + (c.pos - c.org) = c.pos by omega]
      rw [list_len] at h9
      exact hb.resolve_left (by omega)
    · rw [e] at h5; simp at h5
    · rw [hq] at h5
      injection h5 with h5
      subst h5
      exact ⟨.inr ⟨h7, by show q.col < (c.pos : Int) - c.org + 1; omega⟩, fun _ => ⟨h6, h7⟩, fun e => absurd rfl e⟩
    · have hx2 : (c.out ++ [(⟨4, [], 0, c.line, c.col c.pos⟩ : TokD)]).getLast? = some x := hx
      simp at hx2
      subst hx2
      exact ⟨rfl, by show (c.line : Int) < _; omega⟩
theorem at_go {c : Cur} (h : At c) (q : Nat) (hq : c.pos ≤ q) (hno : ∀ j, c.pos ≤ j → j < q → c.s.data.toList.getD j 0 ≠ 10) : At (c.go q) := by
  refine ⟨h.err, ?_, h.pl, fun e => ?_, h.last0⟩
  · obtain ⟨pre, h1, h2⟩ := h.at_
    refine ⟨pre, ?_, h2⟩
    show startsTo c.s.data.toList q = pre ++ [c.org]
    rw [show q = c.pos + (q - c.pos) by omega, startsTo_skip _ _ _ fun j h3 h4 => hno j h3 (by omega), h1]
  · obtain ⟨t, h5, h6, h7, h8⟩ := h.last1 e
    exact ⟨t, h5, h6, h7, by show t.col + (c.org : Int) ≤ (q : Int); omega⟩
theorem fin_fail {c : Cur} (hl : 1 ≤ c.line) (e : Int) (he : e ≠ 0) (p : Nat) (hp : c.org ≤ p) : Fin (c.fail e p) :=
  ⟨fun _ => ⟨by show (1 : Int) ≤ (c.line : Int); omega, by show (1 : Int) ≤ (p : Int) - c.org + 1; omega⟩, fun h => absurd h he⟩
theorem at_step {st : St} {c : Cur} (hi : Inv st c) (h : At c) (hs : st ≠ .none) : ((stepSt st c).1 = .none ∧ Fin (stepSt st c).2) ∨ ((stepSt st c).1 ≠ .none ∧ At (stepSt st c).2) := by
  have ok := hi.ok
  have k2 := ok.pos
  have k3 := ok.org
  have hl := h.line
  cases st with
  | none => exact absurd rfl hs
  | any =>
    show ((stepAny c).1 = .none ∧ Fin (stepAny c).2) ∨ ((stepAny c).1 ≠ .none ∧ At (stepAny c).2)
    unfold stepAny
    by_cases h1 : c.pos = c.s.size ∨ c.byte = 10
    · rw [if_pos h1]; exact .inr ⟨St.noConfusion, h⟩
    · rw [if_neg h1]
      by_cases h2 : c.byte = 35
      · rw [if_pos h2]; exact .inr ⟨St.noConfusion, h⟩
      · rw [if_neg h2]
        by_cases h3 : c.byte = 32 ∨ c.byte = 9
        · rw [if_pos h3]
          refine .inr ⟨St.noConfusion, at_go h (c.pos + 1) (by omega) fun j h4 h5 e => h1 (.inr ?_)⟩
          have : j = c.pos := by omega
          rw [this] at e
          exact e
        · rw [if_neg h3]
          by_cases h4 : Nm.cls c.byte = 1
          · rw [if_pos h4]; exact .inr ⟨St.noConfusion, h⟩
          · rw [if_neg h4]
            by_cases h5 : Nm.cls c.byte = 2
            · rw [if_pos h5]; exact .inr ⟨St.noConfusion, h⟩
            · rw [if_neg h5]; exact .inl ⟨rfl, fin_fail hl 7 (by decide) _ k3⟩
  | end_ =>
    show ((stepEnd c).1 = .none ∧ Fin (stepEnd c).2) ∨ ((stepEnd c).1 ≠ .none ∧ At (stepEnd c).2)
    obtain ⟨c1, c2, c3, c4, c5, c6, c7⟩ := h.close ok (hi.end_ rfl)
    unfold stepEnd
    by_cases h1 : c.pos = c.s.size
    · rw [if_pos h1]
      exact .inl ⟨rfl, fun e => absurd c3 e, fun _ => ⟨by rw [c6]; exact c1, fun t ht => (c2 t ht).1⟩⟩
    · rw [if_neg h1]
      have hb : c.byte = 10 := (hi.end_ rfl).resolve_left h1
      refine .inr ⟨St.noConfusion, c3, ?_, by show Pl c.close.s.data.toList c.close.out; rw [c6]; exact c1, fun e => (by cases e), fun _ t ht => ?_⟩
      · obtain ⟨pre, h1, h2⟩ := h.at_
        refine ⟨pre ++ [c.org], ?_, by show (pre ++ [c.org]).length + 1 = c.close.line + 1; rw [c4, List.length_append, List.length_singleton]; omega⟩
        show startsTo c.close.s.data.toList (c.close.pos + 1) = pre ++ [c.org] ++ [c.close.pos + 1]
        rw [c5, c6, startsTo_yes _ _ hb, h1]
      · obtain ⟨h5, h6⟩ := c2 t ht
        exact ⟨h5, by show t.line < ((c.close.line + 1 : Nat) : Int); rw [c4]; omega⟩
  | remark =>
    have he := eol_spec c k2
    refine .inr ⟨St.noConfusion, at_go h c.eol (by unfold Cur.eol; omega) fun j h4 h5 e => ?_⟩
    have := pre_at (fun b => b != 10) c.s.data.toList c.pos j h4 h5
    rw [e] at this
    cases this
  | word =>
    obtain ⟨hlt, hb⟩ := hi.word rfl
    have hn : 1 ≤ Nm.pre Nm.more c.rest := by rw [rest_head c hlt]; exact pre_pos _ _ _ (cls_one hb)
    show ((stepWord c).1 = .none ∧ Fin (stepWord c).2) ∨ ((stepWord c).1 ≠ .none ∧ At (stepWord c).2)
    unfold stepWord
    by_cases h24 : 24 < Nm.pre Nm.more c.rest
    · simp only [if_pos h24]
      exact .inl ⟨trivial, fin_fail hl 3 (by decide) _ k3⟩
    · simp only [if_neg h24]
      exact .inr ⟨St.noConfusion, h.put ok _ _ _ Nm.more (by decide) (by split <;> decide) (by omega) rfl⟩
  | number =>
    obtain ⟨hlt, hb⟩ := hi.number rfl
    have hn : 1 ≤ Nm.pre Nm.dig c.rest := by rw [rest_head c hlt]; exact pre_pos _ _ _ (cls_two hb)
    show ((stepNumber c).1 = .none ∧ Fin (stepNumber c).2) ∨ ((stepNumber c).1 ≠ .none ∧ At (stepNumber c).2)
    unfold stepNumber
    by_cases h7 : Tk.parseE (c.rest.take (Nm.pre Nm.dig c.rest)) = 7
    · simp only [if_pos h7]
      exact .inl ⟨trivial, fin_fail hl 7 (by decide) _ k3⟩
    · by_cases h0 : Tk.parseE (c.rest.take (Nm.pre Nm.dig c.rest)) ≠ 0
      · simp only [if_neg h7, if_pos h0]
        exact .inl ⟨trivial, fin_fail hl 3 (by decide) _ k3⟩
      · by_cases hq : Nm.pre Nm.dig c.rest < c.rest.length ∧ Nm.cls (c.rest.getD (Nm.pre Nm.dig c.rest) 0) ≠ 0
        · simp only [if_neg h7, if_neg h0, if_pos hq]
          exact .inl ⟨trivial, fin_fail hl 7 (by decide) _ (by omega)⟩
        · simp only [if_neg h7, if_neg h0, if_neg hq]
          exact .inr ⟨St.noConfusion, h.put ok _ _ _ Nm.dig (by decide) (by decide) (by omega) rfl⟩
theorem stepSt_s (st : St) (c : Cur) : (stepSt st c).2.s = c.s := by
  cases st with
  | none => rfl
  | any => show (stepAny c).2.s = c.s; unfold stepAny; repeat' split <;> try rfl
  | end_ =>
    show (stepEnd c).2.s = c.s
    unfold stepEnd Cur.close
    split
    · show (if c.some = true then _ else c).s = c.s; split <;> rfl
    · show (if c.some = true then _ else c).s = c.s; split <;> rfl
  | remark => rfl
  | word => show (stepWord c).2.s = c.s; unfold stepWord; dsimp only; split <;> rfl
  | number => show (stepNumber c).2.s = c.s; unfold stepNumber; dsimp only; repeat' split <;> try rfl
theorem at_runs : ∀ (n : Nat) {st : St} {c : Cur}, mu st c ≤ n → ((st = .none ∧ Fin c) ∨ (st ≠ .none ∧ Inv st c ∧ At c)) → Fin (runs n st c).2 ∧ (runs n st c).2.s = c.s := by
  intro n
  induction n with
  | zero =>
    intro st c hm h
    rcases h with ⟨_, h⟩ | ⟨h, _⟩
    · exact ⟨h, rfl⟩
    · cases st <;> simp only [mu] at hm <;> first | omega | exact absurd rfl h
  | succ n ih =>
    intro st c hm h
    rcases h with ⟨h1, h⟩ | ⟨h1, h2, h3⟩
    · subst h1
      simp only [runs, if_true]
      exact ⟨h, trivial⟩
    · simp only [runs, if_neg h1]
      obtain ⟨h4, h5⟩ := step_inv h2 h1
      have h6 := ih (by omega) (st := (stepSt st c).1) (c := (stepSt st c).2) (by
        rcases at_step h2 h3 h1 with h | ⟨h7, h8⟩
        · exact .inl h
        · exact .inr ⟨h7, h4.resolve_left h7, h8⟩)
      exact ⟨h6.1, by rw [h6.2, stepSt_s]⟩
theorem at_start (s : ByteArray) : At (Cur.start s) := ⟨rfl, ⟨[], rfl, rfl⟩, Pl.nil _, fun e => (by cases e), fun _ t ht => (by cases ht)⟩
/-- Where tokens, and faults, stand. -/
theorem places (s : ByteArray) (hs : s.size ≤ 65536) : ((allD s).2.err ≠ 0 → (allD s).1 = [] ∧ 1 ≤ (allD s).2.line ∧ 1 ≤ (allD s).2.col) ∧ ((allD s).2.err = 0 → Pl s.data.toList (allD s).1 ∧ ∀ t, (allD s).1.getLast? = some t → t.kind = 4) := by
  obtain ⟨⟨h1, h2⟩, h3⟩ := at_runs (2 * s.size + 2) (st := .any) (c := Cur.start s) (by show 2 * (s.size - 0) + 2 ≤ _; omega) (.inr ⟨St.noConfusion, start_inv s hs, at_start s⟩)
  have h3' : (lexed s).s = s := h3
  unfold allD
  rw [if_neg (Nat.not_lt.2 hs)]
  by_cases he : (lexed s).err = 0
  · rw [if_neg (fun h => h he)]
    refine ⟨fun h => absurd rfl h, fun _ => ?_⟩
    have := h2 he
    rw [show (runs (2 * s.size + 2) St.any (Cur.start s)).2 = lexed s from rfl, h3'] at this
    exact this
  · rw [if_pos he]
    exact ⟨fun _ => ⟨rfl, h1 he⟩, fun e => absurd e he⟩
end Go.Proofs.YteonefgbdphmiaaGreatDoor
/- Two texts with a line's end between are cut one by one (plain): the law LexJoins of the machine. -/
namespace Go.Proofs.YteonefgbdphmiaaGreatDoor
open Go.RowKit
/-- Where the machine stands behind all its steps. -/
def final (st : St) (c : Cur) : Cur := (runs (mu st c) st c).2
theorem final_none (c : Cur) : final .none c = c := rfl
theorem final_start (s : ByteArray) : lexed s = final .any (Cur.start s) := rfl
theorem final_step {st : St} {c : Cur} (h : Inv st c) (hs : st ≠ .none) : final st c = final (stepSt st c).1 (stepSt st c).2 := by
  obtain ⟨h1, h2⟩ := step_inv h hs
  obtain ⟨k, hk⟩ : ∃ k, mu st c = k + 1 := ⟨mu st c - 1, by omega⟩
  unfold final
  rw [hk]
  simp only [runs, if_neg hs]
  rw [(runs_stable k h1 (by omega) _ (Nat.le_refl _)).1]
theorem pre_app (p : UInt8 → Bool) (hp : p 10 = false) (l r : List UInt8) : Nm.pre p (l ++ 10 :: r) = Nm.pre p l := by
  unfold Nm.pre
  induction l with
  | nil => rw [List.nil_append, List.takeWhile_cons, hp]; rfl
  | cons a l ih =>
    rw [List.cons_append, List.takeWhile_cons, List.takeWhile_cons]
    split
    · rw [List.length_cons, List.length_cons, ih]
    · rfl
/-- The same cursor at another text. -/
def Cur.on (c : Cur) (u : ByteArray) : Cur := { c with s := u }
/-- u is s, a line's end, and t. -/
def Joined (s t u : ByteArray) : Prop := u.data.toList = s.data.toList ++ 10 :: t.data.toList
theorem Joined.size {s t u : ByteArray} (h : Joined s t u) : u.size = s.size + 1 + t.size := by
  have := congrArg List.length h
  rw [List.length_append, List.length_cons, Nm.len_size, Nm.len_size, Nm.len_size] at this
  omega
theorem on_rest {t u : ByteArray} {c : Cur} (h : Joined c.s t u) (hp : c.pos ≤ c.s.size) : (c.on u).rest = c.rest ++ 10 :: t.data.toList := by
  show u.data.toList.drop c.pos = _
  rw [h, List.drop_append_of_le_length (by rw [Nm.len_size]; exact hp)]
  rfl
theorem on_byte {t u : ByteArray} {c : Cur} (h : Joined c.s t u) (hp : c.pos < c.s.size) : (c.on u).byte = c.byte := by
  show u.data.toList.getD c.pos 0 = c.s.data.toList.getD c.pos 0
  rw [h, List.getD_eq_getElem?_getD, List.getD_eq_getElem?_getD, List.getElem?_append_left (by rw [Nm.len_size]; exact hp)]
theorem on_byte_end {t u : ByteArray} {c : Cur} (h : Joined c.s t u) (hp : c.pos = c.s.size) : (c.on u).byte = 10 := by
  show u.data.toList.getD c.pos 0 = 10
  rw [h, List.getD_eq_getElem?_getD, List.getElem?_append_right (by rw [Nm.len_size]; omega), Nm.len_size, hp, Nat.sub_self]
  rfl
theorem on_close (c : Cur) (u : ByteArray) : (c.on u).close = c.close.on u := by
  unfold Cur.close
  show (if c.some = true then _ else _) = _
  split <;> rfl
theorem step_on {t u : ByteArray} {st : St} {c : Cur} (hi : Inv st c) (hs : st ≠ .none) (hu : Joined c.s t u) (hne : ¬ (st = .end_ ∧ c.pos = c.s.size)) :
    stepSt st (c.on u) = ((stepSt st c).1, (stepSt st c).2.on u) ∧ ((stepSt st c).1 = .none → (stepSt st c).2.err ≠ 0) := by
  have ok := hi.ok
  have k2 := ok.pos
  have hz := hu.size
  have hpu : (c.on u).pos = c.pos := rfl
  have hsu : (c.on u).s = u := rfl
  cases st with
  | none => exact absurd rfl hs
  | any =>
    show stepAny (c.on u) = ((stepAny c).1, (stepAny c).2.on u) ∧ ((stepAny c).1 = .none → (stepAny c).2.err ≠ 0)
    unfold stepAny
    rcases Nat.lt_or_eq_of_le k2 with hlt | heq
    · rw [on_byte hu hlt, hpu, hsu]
      have e1 : (c.pos = u.size ∨ c.byte = 10) ↔ (c.pos = c.s.size ∨ c.byte = 10) := ⟨fun h => .inr (h.resolve_left (by omega)), fun h => .inr (h.resolve_left (by omega))⟩
      simp only [e1]
      by_cases h1 : c.pos = c.s.size ∨ c.byte = 10
      · simp only [if_pos h1]; exact ⟨by trivial, fun e => by cases e⟩
      · simp only [if_neg h1]
        by_cases h2 : c.byte = 35
        · simp only [if_pos h2]; exact ⟨by trivial, fun e => by cases e⟩
        · simp only [if_neg h2]
          by_cases h3 : c.byte = 32 ∨ c.byte = 9
          · simp only [if_pos h3]; exact ⟨rfl, fun e => by cases e⟩
          · simp only [if_neg h3]
            by_cases h4 : Nm.cls c.byte = 1
            · simp only [if_pos h4]; exact ⟨by trivial, fun e => by cases e⟩
            · simp only [if_neg h4]
              by_cases h5 : Nm.cls c.byte = 2
              · simp only [if_pos h5]; exact ⟨by trivial, fun e => by cases e⟩
              · simp only [if_neg h5]; exact ⟨rfl, fun _ => by show (7 : Int) ≠ 0; decide⟩
    · rw [if_pos (.inr (on_byte_end hu heq)), if_pos (.inl heq)]
      exact ⟨rfl, fun e => by cases e⟩
  | end_ =>
    have hlt : c.pos < c.s.size := by
      have : c.pos ≠ c.s.size := fun e => hne ⟨rfl, e⟩
      omega
    show stepEnd (c.on u) = ((stepEnd c).1, (stepEnd c).2.on u) ∧ ((stepEnd c).1 = .none → (stepEnd c).2.err ≠ 0)
    unfold stepEnd
    rw [hpu, hsu, if_neg (by omega), if_neg (by omega), on_close]
    exact ⟨rfl, fun e => by cases e⟩
  | remark =>
    refine ⟨?_, fun e => by cases e⟩
    show stepRemark (c.on u) = ((stepRemark c).1, (stepRemark c).2.on u)
    unfold stepRemark
    have he : (c.on u).eol = c.eol := by
      show c.pos + Nm.pre (fun b => b != 10) (c.on u).rest = c.pos + Nm.pre (fun b => b != 10) c.rest
      rw [on_rest hu k2, pre_app _ (by decide)]
    rw [he]
    rfl
  | word =>
    have hle := Nm.pre_le Nm.more c.rest
    show stepWord (c.on u) = ((stepWord c).1, (stepWord c).2.on u) ∧ ((stepWord c).1 = .none → (stepWord c).2.err ≠ 0)
    unfold stepWord
    rw [on_rest hu k2, pre_app _ (by decide)]
    dsimp only
    rw [List.take_append_of_le_length hle]
    by_cases h24 : 24 < Nm.pre Nm.more c.rest
    · simp only [if_pos h24]; exact ⟨rfl, fun _ => by show (3 : Int) ≠ 0; decide⟩
    · simp only [if_neg h24]; exact ⟨rfl, fun e => by cases e⟩
  | number =>
    have hle := Nm.pre_le Nm.dig c.rest
    show stepNumber (c.on u) = ((stepNumber c).1, (stepNumber c).2.on u) ∧ ((stepNumber c).1 = .none → (stepNumber c).2.err ≠ 0)
    unfold stepNumber
    rw [on_rest hu k2, pre_app _ (by decide)]
    dsimp only
    rw [List.take_append_of_le_length hle]
    have hq : (Nm.pre Nm.dig c.rest < (c.rest ++ 10 :: t.data.toList).length ∧ Nm.cls ((c.rest ++ 10 :: t.data.toList).getD (Nm.pre Nm.dig c.rest) 0) ≠ 0) ↔ (Nm.pre Nm.dig c.rest < c.rest.length ∧ Nm.cls (c.rest.getD (Nm.pre Nm.dig c.rest) 0) ≠ 0) := by
      rw [List.length_append, List.length_cons, List.getD_eq_getElem?_getD, List.getD_eq_getElem?_getD]
      rcases Nat.lt_or_eq_of_le hle with h | h
      · rw [List.getElem?_append_left h]
        exact ⟨fun e => ⟨h, e.2⟩, fun e => ⟨by omega, e.2⟩⟩
      · rw [List.getElem?_append_right (by omega), h, Nat.sub_self]
        exact ⟨fun e => absurd (by rfl : Nm.cls 10 = 0) e.2, fun e => absurd e.1 (by omega)⟩
    simp only [hq]
    by_cases h7 : Tk.parseE (c.rest.take (Nm.pre Nm.dig c.rest)) = 7
    · simp only [if_pos h7]; exact ⟨rfl, fun _ => by show (7 : Int) ≠ 0; decide⟩
    · by_cases h0 : Tk.parseE (c.rest.take (Nm.pre Nm.dig c.rest)) ≠ 0
      · simp only [if_neg h7, if_pos h0]; exact ⟨rfl, fun _ => by show (3 : Int) ≠ 0; decide⟩
      · by_cases hq2 : Nm.pre Nm.dig c.rest < c.rest.length ∧ Nm.cls (c.rest.getD (Nm.pre Nm.dig c.rest) 0) ≠ 0
        · simp only [if_neg h7, if_neg h0, if_pos hq2]; exact ⟨rfl, fun _ => by show (7 : Int) ≠ 0; decide⟩
        · simp only [if_neg h7, if_neg h0, if_neg hq2]; exact ⟨rfl, fun e => by cases e⟩
/-- How many lines begin in a text. -/
def linesOf (s : ByteArray) : Nat := (startsTo s.data.toList s.data.toList.length).length
/-- The first text is gone through. -/
theorem first_on {s t u : ByteArray} (hu : Joined s t u) : ∀ (m : Nat) (st : St) (c : Cur), mu st c ≤ m → Inv st c → Inv st (c.on u) → st ≠ .none → At c → c.s = s →
    ((final st c).err ≠ 0 ∧ final st (c.on u) = (final st c).on u) ∨
    ((final st c).err = 0 ∧ final st (c.on u) = final .any ((final st c).down.on u) ∧ Inv .any ((final st c).down.on u) ∧ (final st c).pos = s.size ∧ (final st c).line = linesOf s) := by
  intro m
  induction m with
  | zero =>
    intro st c hm _ _ hs
    cases st <;> simp only [mu] at hm <;> first | omega | exact absurd rfl hs
  | succ m ih =>
    intro st c hm hi hi2 hs ha hcs
    obtain ⟨h1, h2⟩ := step_inv hi hs
    obtain ⟨h3, h4⟩ := step_inv hi2 hs
    by_cases hne : st = .end_ ∧ c.pos = c.s.size
    · obtain ⟨rfl, hp⟩ := hne
      obtain ⟨c1, c2, c3, c4, c5, c6, c7⟩ := ha.close hi.ok (.inl hp)
      have hst : stepSt .end_ c = (.none, c.close) := by
        show stepEnd c = _
        unfold stepEnd
        rw [if_pos hp]
      have hsu : stepSt .end_ (c.on u) = (.any, c.close.down.on u) := by
        have hz := hu.size
        show stepEnd (c.on u) = _
        unfold stepEnd
        rw [if_neg (by show ¬ c.pos = u.size; rw [hcs] at hp; omega), on_close]
        rfl
      rw [final_step hi hs, final_step hi2 hs, hst, hsu, final_none]
      rw [hsu] at h3
      refine .inr ⟨c3, rfl, h3.resolve_left St.noConfusion, by rw [c5, hp, hcs], ?_⟩
      obtain ⟨pre, p1, p2⟩ := ha.at_
      rw [c4, ← p2]
      unfold linesOf
      rw [hcs] at p1 hp
      rw [Nm.len_size, ← hp, p1, List.length_append, List.length_singleton]
    · obtain ⟨e1, e2⟩ := step_on hi hs (by rw [hcs]; exact hu) hne
      rw [final_step hi hs, final_step hi2 hs, e1]
      rw [e1] at h3 h4
      by_cases hn : (stepSt st c).1 = .none
      · have := e2 hn
        rw [hn, final_none, final_none]
        exact .inl ⟨this, rfl⟩
      · refine ih _ _ (by omega) (h1.resolve_left hn) (h3.resolve_left hn) hn ?_ (by rw [stepSt_s, hcs])
        rcases at_step hi ha hs with h | h
        · exact absurd h.1 hn
        · exact h.2
def mvT (n : Nat) (x : TokD) : TokD := { x with line := x.line + n }
/-- A cursor of the second text as it is in both. -/
def Cur.shift (c : Cur) (u : ByteArray) (n k : Nat) (a : List TokD) (x y : Int) : Cur :=
  ⟨u, c.line + n, c.org + k, c.pos + k, a ++ c.out.map (mvT n), c.some, c.err, if c.err = 0 then x else c.fl + n, if c.err = 0 then y else c.fc⟩
section
variable {s t u : ByteArray} {n : Nat} {a : List TokD} {x y : Int}
theorem shift_rest {c : Cur} (h : Joined s c.s u) : (c.shift u n (s.size + 1) a x y).rest = c.rest := by
  show u.data.toList.drop (c.pos + (s.size + 1)) = c.s.data.toList.drop c.pos
  rw [h, show s.data.toList ++ 10 :: c.s.data.toList = (s.data.toList ++ [10]) ++ c.s.data.toList by simp, List.drop_append, List.drop_eq_nil_of_le (by simp)]
  simp
theorem shift_byte {c : Cur} (h : Joined s c.s u) : (c.shift u n (s.size + 1) a x y).byte = c.byte := by
  show u.data.toList.getD (c.pos + (s.size + 1)) 0 = c.s.data.toList.getD c.pos 0
  rw [h, show s.data.toList ++ 10 :: c.s.data.toList = (s.data.toList ++ [10]) ++ c.s.data.toList by simp, List.getD_eq_getElem?_getD, List.getD_eq_getElem?_getD, List.getElem?_append_right (by simp)]
  simp
theorem shift_fail (c : Cur) (k : Nat) (e : Int) (he : e ≠ 0) (p : Nat) : (c.shift u n k a x y).fail e (p + k) = (c.fail e p).shift u n k a x y := by
  unfold Cur.fail Cur.shift Cur.col
  simp only [if_neg he, Cur.mk.injEq, true_and]
  exact ⟨by push_cast; rfl, by push_cast; omega⟩
theorem shift_put (c : Cur) (k : Nat) (kind : Int) (text : List UInt8) (num : Int) (m : Nat) : (c.shift u n k a x y).put kind text num m = (c.put kind text num m).shift u n k a x y := by
  unfold Cur.put Cur.shift Cur.col
  simp only [Cur.mk.injEq, and_true, true_and, List.map_append, List.append_assoc, List.map_cons, List.map_nil]
  refine ⟨by omega, ?_⟩
  congr 2
  unfold mvT
  simp only [List.cons.injEq, TokD.mk.injEq, and_true, true_and]
  exact ⟨by push_cast; rfl, by push_cast; omega⟩
theorem shift_close (c : Cur) (k : Nat) : (c.shift u n k a x y).close = c.close.shift u n k a x y := by
  unfold Cur.close
  show (if c.some = true then _ else _) = _
  split
  · exact shift_put c k 4 [] 0 0
  · rfl
theorem step_shift {st : St} {c : Cur} (hs : st ≠ .none) (hu : Joined s c.s u) :
    stepSt st (c.shift u n (s.size + 1) a x y) = ((stepSt st c).1, (stepSt st c).2.shift u n (s.size + 1) a x y) := by
  have hz := hu.size
  have hpu : (c.shift u n (s.size + 1) a x y).pos = c.pos + (s.size + 1) := rfl
  have hsu : (c.shift u n (s.size + 1) a x y).s = u := rfl
  cases st with
  | none => exact absurd rfl hs
  | any =>
    show stepAny (c.shift u n (s.size + 1) a x y) = ((stepAny c).1, (stepAny c).2.shift u n (s.size + 1) a x y)
    unfold stepAny
    rw [shift_byte hu, hpu, hsu]
    have e1 : (c.pos + (s.size + 1) = u.size ∨ c.byte = 10) ↔ (c.pos = c.s.size ∨ c.byte = 10) := by
      constructor
      · rintro (h | h)
        · exact .inl (by omega)
        · exact .inr h
      · rintro (h | h)
        · exact .inl (by omega)
        · exact .inr h
    simp only [e1]
    by_cases h1 : c.pos = c.s.size ∨ c.byte = 10
    · simp only [if_pos h1]
    · simp only [if_neg h1]
      by_cases h2 : c.byte = 35
      · simp only [if_pos h2]
      · simp only [if_neg h2]
        by_cases h3 : c.byte = 32 ∨ c.byte = 9
        · simp only [if_pos h3]
          unfold Cur.shift
          simp only [Prod.mk.injEq, Cur.mk.injEq, and_true, true_and]
          omega
        · simp only [if_neg h3]
          by_cases h4 : Nm.cls c.byte = 1
          · simp only [if_pos h4]
          · simp only [if_neg h4]
            by_cases h5 : Nm.cls c.byte = 2
            · simp only [if_pos h5]
            · simp only [if_neg h5, shift_fail c _ 7 (by decide)]
  | end_ =>
    show stepEnd (c.shift u n (s.size + 1) a x y) = ((stepEnd c).1, (stepEnd c).2.shift u n (s.size + 1) a x y)
    unfold stepEnd
    rw [hpu, hsu, shift_close]
    by_cases h1 : c.pos = c.s.size
    · rw [if_pos (by omega), if_pos h1]
    · rw [if_neg (by omega), if_neg h1]
      unfold Cur.down Cur.shift
      simp only [Prod.mk.injEq, Cur.mk.injEq, and_true, true_and]
      exact ⟨by omega, by omega, by omega⟩
  | remark =>
    show stepRemark (c.shift u n (s.size + 1) a x y) = ((stepRemark c).1, (stepRemark c).2.shift u n (s.size + 1) a x y)
    unfold stepRemark
    have he : (c.shift u n (s.size + 1) a x y).eol = c.eol + (s.size + 1) := by
      show c.pos + (s.size + 1) + Nm.pre (fun b => b != 10) (c.shift u n (s.size + 1) a x y).rest = c.pos + Nm.pre (fun b => b != 10) c.rest + (s.size + 1)
      rw [shift_rest hu]
      omega
    rw [he]
    rfl
  | word =>
    show stepWord (c.shift u n (s.size + 1) a x y) = ((stepWord c).1, (stepWord c).2.shift u n (s.size + 1) a x y)
    unfold stepWord
    rw [shift_rest hu, hpu]
    by_cases h24 : 24 < Nm.pre Nm.more c.rest
    · simp only [if_pos h24, shift_fail c _ 3 (by decide)]
    · simp only [if_neg h24, shift_put]
  | number =>
    show stepNumber (c.shift u n (s.size + 1) a x y) = ((stepNumber c).1, (stepNumber c).2.shift u n (s.size + 1) a x y)
    unfold stepNumber
    rw [shift_rest hu, hpu]
    by_cases h7 : Tk.parseE (c.rest.take (Nm.pre Nm.dig c.rest)) = 7
    · simp only [if_pos h7, shift_fail c _ 7 (by decide)]
    · by_cases h0 : Tk.parseE (c.rest.take (Nm.pre Nm.dig c.rest)) ≠ 0
      · simp only [if_neg h7, if_pos h0, shift_fail c _ 3 (by decide)]
      · by_cases hq2 : Nm.pre Nm.dig c.rest < c.rest.length ∧ Nm.cls (c.rest.getD (Nm.pre Nm.dig c.rest) 0) ≠ 0
        · simp only [if_neg h7, if_neg h0, if_pos hq2]
          rw [show c.pos + (s.size + 1) + Nm.pre Nm.dig c.rest = c.pos + Nm.pre Nm.dig c.rest + (s.size + 1) by omega, shift_fail c _ 7 (by decide)]
        · simp only [if_neg h7, if_neg h0, if_neg hq2, shift_put]
/-- The second text is gone through. -/
theorem second_on : ∀ (m : Nat) (st : St) (c : Cur), mu st c ≤ m → (st = .none ∨ Inv st c) → (st = .none ∨ Inv st (c.shift u n (s.size + 1) a x y)) → Joined s c.s u →
    final st (c.shift u n (s.size + 1) a x y) = (final st c).shift u n (s.size + 1) a x y := by
  intro m
  induction m with
  | zero =>
    intro st c hm _ _ _
    cases st <;> simp only [mu] at hm <;> first | omega | rfl
  | succ m ih =>
    intro st c hm hi hi2 hu
    by_cases hs : st = .none
    · subst hs; rfl
    · have hj := hi.resolve_left hs
      have hj2 := hi2.resolve_left hs
      obtain ⟨h1, h2⟩ := step_inv hj hs
      obtain ⟨h3, h4⟩ := step_inv hj2 hs
      have e1 := step_shift (n := n) (a := a) (x := x) (y := y) hs hu
      rw [final_step hj hs, final_step hj2 hs, e1]
      rw [e1] at h3
      exact ih _ _ (by show mu (stepSt st c).1 (stepSt st c).2 ≤ m; omega) h1 h3 (by rw [stepSt_s]; exact hu)
end
/-- Two texts are cut one by one. -/
theorem joins {s t u : ByteArray} (hu : Joined s t u) (hz : u.size ≤ 65536) :
    ((allD s).2.err ≠ 0 → allD u = ([], (allD s).2)) ∧
    ((allD s).2.err = 0 → (allD t).2.err ≠ 0 → allD u = ([], ⟨(allD t).2.err, (allD t).2.line + (linesOf s : Int), (allD t).2.col⟩)) ∧
    ((allD s).2.err = 0 → (allD t).2.err = 0 → allD u = ((allD s).1 ++ (allD t).1.map (mvT (linesOf s)), ⟨0, 0, 0⟩)) := by
  have hsz := hu.size
  have hs : s.size ≤ 65536 := by omega
  have ht : t.size ≤ 65536 := by omega
  have h1 := first_on hu _ .any (Cur.start s) (Nat.le_refl _) (start_inv s hs) (start_inv u hz) St.noConfusion (at_start s) rfl
  have hf : lexed u = final .any ((Cur.start s).on u) := rfl
  have hfs : lexed s = final .any (Cur.start s) := rfl
  have hft : lexed t = final .any (Cur.start t) := rfl
  rw [← hf, ← hfs] at h1
  unfold allD
  rw [if_neg (by omega : ¬ 65536 < s.size), if_neg (by omega : ¬ 65536 < t.size), if_neg (by omega : ¬ 65536 < u.size)]
  rcases h1 with ⟨h1, h2⟩ | ⟨h1, h2, h3, h4, h5⟩
  · have e : (lexed u).err ≠ 0 := by rw [h2]; exact h1
    rw [if_pos h1, if_pos e, h2]
    exact ⟨fun _ => rfl, fun h => absurd h h1, fun h => absurd h h1⟩
  · have hsh : (lexed s).down.on u = (Cur.start t).shift u (linesOf s) (s.size + 1) (lexed s).out (lexed s).fl (lexed s).fc := by
      unfold Cur.down Cur.on Cur.shift Cur.start
      simp only [Cur.mk.injEq, List.map_nil, List.append_nil, if_true, and_true, true_and]
      exact ⟨by omega, by omega, by omega, h1⟩
    rw [hsh] at h2 h3
    rw [second_on _ _ _ (Nat.le_refl _) (.inr (start_inv t ht)) (.inr h3) hu, ← hft] at h2
    rw [if_neg (fun h => h h1)]
    by_cases he : (lexed t).err = 0
    · have e : (lexed u).err = 0 := by rw [h2]; exact he
      rw [if_neg (fun h => h e), if_neg (fun h => h he), h2]
      exact ⟨fun h => absurd rfl h, fun _ h => absurd rfl h, fun _ _ => rfl⟩
    · have e : (lexed u).err ≠ 0 := by rw [h2]; exact he
      rw [if_pos e, if_pos he, h2]
      refine ⟨fun h => absurd rfl h, fun _ _ => ?_, fun _ h => absurd h he⟩
      unfold Cur.shift
      simp only [if_neg he]
end Go.Proofs.YteonefgbdphmiaaGreatDoor
/- Tokens put with blanks and remarks between are cut as they were (plain). -/
namespace Go.Proofs.YteonefgbdphmiaaGreatDoor
open Go.RowKit
/-- What a token tells but its place. -/
def key (t : TokD) : Int × List UInt8 × Int := (t.kind, t.text, t.num)
def endK : Int × List UInt8 × Int := (4, [], 0)
/-- What a token of the machine is. -/
def GoodT (t : TokD) : Prop :=
  (t.kind = 4 ∧ t.text = [] ∧ t.num = 0) ∨
  (t.kind = (if Nm.res t.text = true then 2 else 1) ∧ t.num = 0 ∧ (∃ b r, t.text = b :: r ∧ Nm.cls b = 1) ∧ t.text.all Nm.more = true ∧ t.text.length ≤ 24) ∨
  (t.kind = 3 ∧ t.num = Tk.parseV t.text ∧ (∃ b r, t.text = b :: r ∧ Nm.cls b = 2) ∧ t.text.all Nm.dig = true ∧ Tk.parseE t.text = 0)
theorem take_pre_all (p : UInt8 → Bool) (l : List UInt8) : (l.take (Nm.pre p l)).all p = true := by
  unfold Nm.pre
  induction l with
  | nil => rfl
  | cons a l ih =>
    rw [List.takeWhile_cons]
    rcases ha : p a
    · rfl
    · simp only [if_true, List.length_cons, List.take_succ_cons, List.all_cons, ha, Bool.true_and]
      exact ih
theorem pre_all (p : UInt8 → Bool) (x R : List UInt8) (hx : x.all p = true) (hR : ∀ b r, R = b :: r → p b = false) : Nm.pre p (x ++ R) = x.length := by
  unfold Nm.pre
  induction x with
  | nil =>
    cases R with
    | nil => rfl
    | cons b r => rw [List.nil_append, List.takeWhile_cons, hR b r rfl]; rfl
  | cons a x ih =>
    rw [List.all_cons, Bool.and_eq_true] at hx
    rw [List.cons_append, List.takeWhile_cons, hx.1]
    simp only [if_true, List.length_cons]
    rw [ih hx.2]
theorem rest_cons {c : Cur} {b : UInt8} {R : List UInt8} (h : c.rest = b :: R) : c.pos < c.s.size ∧ c.byte = b ∧ c.s.data.toList.drop (c.pos + 1) = R := by
  have hlt : c.pos < c.s.size := by
    have h1 : c.rest.length = c.s.size - c.pos := by unfold Cur.rest; rw [List.length_drop, Nm.len_size]
    rw [h, List.length_cons] at h1
    omega
  have h2 := rest_head c hlt
  rw [h] at h2
  injection h2 with h3 h4
  exact ⟨hlt, h3.symm, h4.symm⟩
theorem rest_nil {c : Cur} (ok : c.Ok) (h : c.rest = []) : c.pos = c.s.size := by
  have h1 : c.rest.length = c.s.size - c.pos := by unfold Cur.rest; rw [List.length_drop, Nm.len_size]
  rw [h, List.length_nil] at h1
  have := ok.pos
  omega
theorem drop_at {c : Cur} {x R : List UInt8} (h : c.rest = x ++ R) : c.s.data.toList.drop (c.pos + x.length) = R := by
  rw [← List.drop_drop]
  show c.rest.drop x.length = R
  rw [h, List.drop_left]
/-- On the way to F: what is left, what has been put. -/
def Mid (F : Cur) (R : List UInt8) (ks : List (Int × List UInt8 × Int)) (sm : Bool) : Prop :=
  ∃ c, final .any c = F ∧ Inv .any c ∧ c.rest = R ∧ c.out.map key = ks ∧ c.some = sm ∧ c.err = 0
theorem Mid.start (u : ByteArray) (h : u.size ≤ 65536) : Mid (lexed u) u.data.toList [] false := ⟨Cur.start u, rfl, start_inv u h, rfl, rfl, rfl, rfl⟩
variable {F : Cur} {R : List UInt8} {ks : List (Int × List UInt8 × Int)} {sm : Bool}
theorem Mid.blank {b : UInt8} (hb : b = 32 ∨ b = 9) (h : Mid F (b :: R) ks sm) : Mid F R ks sm := by
  obtain ⟨c, h1, h2, h3, h4, h5, h6⟩ := h
  obtain ⟨r1, r2, r3⟩ := rest_cons h3
  have hst : stepSt .any c = (.any, { c with pos := c.pos + 1 }) := by
    show stepAny c = _
    unfold stepAny
    rw [r2, if_neg (by rintro (h | h); · omega
                       · rcases hb with rfl | rfl <;> cases h), if_neg (by rcases hb with rfl | rfl <;> decide), if_pos hb]
  rw [final_step h2 St.noConfusion, hst] at h1
  have h7 := (step_inv h2 St.noConfusion).1
  rw [hst] at h7
  exact ⟨_, h1, h7.resolve_left St.noConfusion, r3, h4, h5, h6⟩
theorem Mid.blanks : ∀ {g : List UInt8}, (∀ b ∈ g, b = 32 ∨ b = 9) → Mid F (g ++ R) ks sm → Mid F R ks sm := by
  intro g
  induction g with
  | nil => intro _ h; exact h
  | cons b g ih => intro hb h; exact ih (fun x hx => hb x (List.mem_cons_of_mem _ hx)) (Mid.blank (hb b List.mem_cons_self) h)
theorem Mid.tok {t : TokD} (ht : GoodT t) (h4 : t.kind ≠ 4) (hR : ∀ b r, R = b :: r → Nm.cls b = 0) (h : Mid F (t.text ++ R) ks sm) : Mid F R (ks ++ [key t]) true := by
  obtain ⟨c, h1, h2, h3, k4, k5, k6⟩ := h
  rcases ht with ht | ⟨t1, t2, ⟨b, r, t3, t4⟩, t5, t6⟩ | ⟨t1, t2, ⟨b, r, t3, t4⟩, t5, t6⟩
  · exact absurd ht.1 h4
  · have hrr : c.rest = b :: (r ++ R) := by rw [h3, t3]; rfl
    obtain ⟨r1, r2, r3⟩ := rest_cons hrr
    have hpre : Nm.pre Nm.more c.rest = t.text.length := by
      rw [h3]
      exact pre_all _ _ _ t5 fun b r e => by rw [← Nm.cls_more, hR b r e]; rfl
    have hst : stepSt .any c = (.word, c) := by
      show stepAny c = _
      unfold stepAny
      rw [r2, if_neg (by rintro (h | rfl); · omega
                         · exact absurd t4 (by decide)), if_neg (by rintro rfl; exact absurd t4 (by decide)), if_neg (by rintro (rfl | rfl) <;> exact absurd t4 (by decide)), if_pos t4]
    rw [final_step h2 St.noConfusion, hst] at h1
    have h7 := (step_inv h2 St.noConfusion).1
    rw [hst] at h7
    have h8 := h7.resolve_left St.noConfusion
    have hst2 : stepSt .word c = (.any, c.put t.kind t.text 0 t.text.length) := by
      show stepWord c = _
      unfold stepWord
      rw [hpre]
      dsimp only
      rw [if_neg (by omega), h3, List.take_left, ← t1]
    rw [final_step h8 St.noConfusion, hst2] at h1
    have h9 := (step_inv h8 St.noConfusion).1
    rw [hst2] at h9
    refine ⟨_, h1, h9.resolve_left St.noConfusion, drop_at h3, ?_, rfl, k6⟩
    show (c.out ++ [_]).map key = _
    rw [List.map_append, k4]
    unfold key
    rw [t2]
    rfl
  · have hrr : c.rest = b :: (r ++ R) := by rw [h3, t3]; rfl
    obtain ⟨r1, r2, r3⟩ := rest_cons hrr
    have hpre : Nm.pre Nm.dig c.rest = t.text.length := by
      rw [h3]
      exact pre_all _ _ _ t5 fun b r e => by rw [← Nm.cls_dig, hR b r e]; rfl
    have hst : stepSt .any c = (.number, c) := by
      show stepAny c = _
      unfold stepAny
      rw [r2, if_neg (by rintro (h | rfl); · omega
                         · exact absurd t4 (by decide)), if_neg (by rintro rfl; exact absurd t4 (by decide)), if_neg (by rintro (rfl | rfl) <;> exact absurd t4 (by decide)), if_neg (by rw [t4]; decide), if_pos t4]
    rw [final_step h2 St.noConfusion, hst] at h1
    have h7 := (step_inv h2 St.noConfusion).1
    rw [hst] at h7
    have h8 := h7.resolve_left St.noConfusion
    have hst2 : stepSt .number c = (.any, c.put 3 t.text t.num t.text.length) := by
      show stepNumber c = _
      unfold stepNumber
      rw [hpre]
      dsimp only
      have hno : ¬ (t.text.length < (t.text ++ R).length ∧ Nm.cls ((t.text ++ R).getD t.text.length 0) ≠ 0) := by
        rintro ⟨hl, hc⟩
        cases R with
        | nil => rw [List.append_nil] at hl; omega
        | cons b' r' =>
          rw [List.getD_eq_getElem?_getD, List.getElem?_append_right (Nat.le_refl _), Nat.sub_self] at hc
          exact hc (hR b' r' rfl)
      rw [h3, List.take_left, t6, if_neg (by decide), if_neg (by decide), if_neg hno, t2]
    rw [final_step h8 St.noConfusion, hst2] at h1
    have h9 := (step_inv h8 St.noConfusion).1
    rw [hst2] at h9
    refine ⟨_, h1, h9.resolve_left St.noConfusion, drop_at h3, ?_, rfl, k6⟩
    show (c.out ++ [_]).map key = _
    rw [List.map_append, k4]
    unfold key
    rw [t1]
    rfl
theorem Mid.line (h : Mid F (10 :: R) ks sm) : Mid F R (if sm = true then ks ++ [endK] else ks) false := by
  obtain ⟨c, h1, h2, h3, h4, h5, h6⟩ := h
  obtain ⟨r1, r2, r3⟩ := rest_cons h3
  have hst : stepSt .any c = (.end_, c) := by
    show stepAny c = _
    unfold stepAny
    rw [if_pos (.inr r2)]
  rw [final_step h2 St.noConfusion, hst] at h1
  have h7 := (step_inv h2 St.noConfusion).1
  rw [hst] at h7
  have h8 := h7.resolve_left St.noConfusion
  have hst2 : stepSt .end_ c = (.any, c.close.down) := by
    show stepEnd c = _
    unfold stepEnd
    rw [if_neg (by omega)]
  rw [final_step h8 St.noConfusion, hst2] at h1
  have h9 := (step_inv h8 St.noConfusion).1
  rw [hst2] at h9
  have hp : c.close.pos = c.pos ∧ c.close.s = c.s ∧ c.close.err = c.err ∧ c.close.out.map key = if c.some = true then ks ++ [endK] else ks := by
    unfold Cur.close
    by_cases hs : c.some = true
    · rw [if_pos hs, if_pos hs]
      refine ⟨Nat.add_zero _, rfl, rfl, ?_⟩
      show (c.out ++ [_]).map key = _
      rw [List.map_append, h4]
      rfl
    · rw [if_neg hs, if_neg hs]
      exact ⟨rfl, rfl, rfl, h4⟩
  refine ⟨_, h1, h9.resolve_left St.noConfusion, ?_, ?_, rfl, ?_⟩
  · show c.close.s.data.toList.drop (c.close.pos + 1) = R
    rw [hp.1, hp.2.1, r3]
  · show c.close.out.map key = _
    rw [hp.2.2.2, h5]
  · show c.close.err = 0
    rw [hp.2.2.1, h6]
theorem Mid.remark {m : List UInt8} (hm : ∀ b ∈ m, b ≠ 10) (h : Mid F (35 :: (m ++ 10 :: R)) ks sm) : Mid F (10 :: R) ks sm := by
  obtain ⟨c, h1, h2, h3, h4, h5, h6⟩ := h
  obtain ⟨r1, r2, r3⟩ := rest_cons h3
  have hst : stepSt .any c = (.remark, c) := by
    show stepAny c = _
    unfold stepAny
    rw [r2, if_neg (by rintro (h | h); · omega
                       · cases h), if_pos rfl]
  rw [final_step h2 St.noConfusion, hst] at h1
  have h7 := (step_inv h2 St.noConfusion).1
  rw [hst] at h7
  have h8 := h7.resolve_left St.noConfusion
  have he : c.eol = c.pos + (35 :: m).length := by
    show c.pos + Nm.pre (fun b => b != 10) c.rest = _
    rw [h3, show (35 : UInt8) :: (m ++ 10 :: R) = (35 :: m) ++ 10 :: R from rfl, pre_all (fun b => b != 10) (35 :: m) (10 :: R)]
    · rw [List.all_eq_true]
      intro x hx
      rcases List.mem_cons.1 hx with rfl | hx
      · rfl
      · simpa using hm x hx
    · rintro b r e
      injection e with e _
      subst e
      rfl
  have hst2 : stepSt .remark c = (.any, { c with pos := c.eol }) := rfl
  rw [final_step h8 St.noConfusion, hst2] at h1
  have h9 := (step_inv h8 St.noConfusion).1
  rw [hst2] at h9
  refine ⟨_, h1, h9.resolve_left St.noConfusion, ?_, h4, h5, h6⟩
  show c.s.data.toList.drop c.eol = _
  rw [he]
  exact drop_at (x := 35 :: m) h3
theorem Mid.fin (h : Mid F [] ks false) : F.out.map key = ks ∧ F.err = 0 := by
  obtain ⟨c, h1, h2, h3, h4, h5, h6⟩ := h
  have hp := rest_nil h2.ok h3
  have hst : stepSt .any c = (.end_, c) := by
    show stepAny c = _
    unfold stepAny
    rw [if_pos (.inl hp)]
  rw [final_step h2 St.noConfusion, hst] at h1
  have h7 := (step_inv h2 St.noConfusion).1
  rw [hst] at h7
  have h8 := h7.resolve_left St.noConfusion
  have hst2 : stepSt .end_ c = (.none, c) := by
    show stepEnd c = _
    unfold stepEnd Cur.close
    rw [if_pos hp, if_neg (by rw [h5]; decide)]
  rw [final_step h8 St.noConfusion, hst2, final_none] at h1
  subst h1
  exact ⟨h4, h6⟩
/-- The tokens of the machine are good. -/
theorem good_step {st : St} {c : Cur} (hi : Inv st c) (h : ∀ t ∈ c.out, GoodT t) : ∀ t ∈ (stepSt st c).2.out, GoodT t := by
  have ok := hi.ok
  have snoc : ∀ x, GoodT x → ∀ t ∈ c.out ++ [x], GoodT t := fun x hx t ht => by
    rcases List.mem_append.1 ht with ht | ht
    · exact h t ht
    · rw [List.mem_singleton] at ht; subst ht; exact hx
  cases st with
  | none => exact h
  | any => show ∀ t ∈ (stepAny c).2.out, _; unfold stepAny; (repeat' split) <;> exact h
  | end_ =>
    have hc : ∀ t ∈ c.close.out, GoodT t := by
      unfold Cur.close
      split
      · exact snoc _ (.inl ⟨rfl, rfl, rfl⟩)
      · exact h
    show ∀ t ∈ (stepEnd c).2.out, _
    unfold stepEnd
    split
    · exact hc
    · exact hc
  | remark => exact h
  | word =>
    obtain ⟨hlt, hb⟩ := hi.word rfl
    have hn : 1 ≤ Nm.pre Nm.more c.rest := by rw [rest_head c hlt]; exact pre_pos _ _ _ (cls_one hb)
    show ∀ t ∈ (stepWord c).2.out, _
    unfold stepWord
    dsimp only
    split
    · exact h
    · rename_i h24
      refine snoc _ (.inr (.inl ⟨rfl, rfl, ?_, take_pre_all _ _, ?_⟩))
      · obtain ⟨k, hk⟩ : ∃ k, Nm.pre Nm.more c.rest = k + 1 := ⟨Nm.pre Nm.more c.rest - 1, by omega⟩
        refine ⟨c.byte, (c.s.data.toList.drop (c.pos + 1)).take k, ?_, hb⟩
        show c.rest.take _ = _
        rw [hk, rest_head c hlt, List.take_succ_cons]
      · show (c.rest.take _).length ≤ 24
        rw [List.length_take]; omega
  | number =>
    obtain ⟨hlt, hb⟩ := hi.number rfl
    have hn : 1 ≤ Nm.pre Nm.dig c.rest := by rw [rest_head c hlt]; exact pre_pos _ _ _ (cls_two hb)
    show ∀ t ∈ (stepNumber c).2.out, _
    unfold stepNumber
    dsimp only
    split
    · exact h
    · split
      · exact h
      · rename_i h0
        split
        · exact h
        · refine snoc _ (.inr (.inr ⟨rfl, rfl, ?_, take_pre_all _ _, Decidable.not_not.1 h0⟩))
          obtain ⟨k, hk⟩ : ∃ k, Nm.pre Nm.dig c.rest = k + 1 := ⟨Nm.pre Nm.dig c.rest - 1, by omega⟩
          refine ⟨c.byte, (c.s.data.toList.drop (c.pos + 1)).take k, ?_, hb⟩
          show c.rest.take _ = _
          rw [hk, rest_head c hlt, List.take_succ_cons]
theorem good_runs : ∀ (n : Nat) {st : St} {c : Cur}, (st = .none ∨ Inv st c) → (∀ t ∈ c.out, GoodT t) → ∀ t ∈ (runs n st c).2.out, GoodT t := by
  intro n
  induction n with
  | zero => intro st c _ h; exact h
  | succ n ih =>
    intro st c hi h
    by_cases hs : st = .none
    · subst hs; simp only [runs, if_true]; exact h
    · simp only [runs, if_neg hs]
      have hj := hi.resolve_left hs
      exact ih (step_inv hj hs).1 (good_step hj h)
theorem good_all (s : ByteArray) : ∀ t ∈ (allD s).1, GoodT t := by
  unfold allD
  split
  · intro t ht; cases ht
  · rename_i hs
    split
    · intro t ht; cases ht
    · exact good_runs _ (.inr (start_inv s (by omega))) (fun t ht => by cases ht)
/-- Lines end behind something. -/
def Order : Bool → List TokD → Prop
  | sm, [] => sm = false
  | sm, t :: l => (t.kind = 4 → sm = true) ∧ Order (decide (t.kind ≠ 4)) l
theorem order_of {L : List UInt8} : ∀ (l m : List TokD), Pl L (m ++ l) → (∀ t, (m ++ l).getLast? = some t → t.kind = 4) → Order (match m.getLast? with | none => false | some p => decide (p.kind ≠ 4)) l := by
  intro l
  induction l with
  | nil =>
    intro m _ hl
    rw [List.append_nil] at hl
    show _ = false
    rcases hm : m.getLast? with _ | p
    · rfl
    · have := hl p hm
      simp [this]
  | cons t l ih =>
    intro m hp hl
    have hpt := hp m.length t (by rw [List.getElem?_append_right (Nat.le_refl _), Nat.sub_self]; rfl)
    refine ⟨fun h4 => ?_, ?_⟩
    · rcases hm : m.getLast? with _ | p
      · have : m = [] := List.getLast?_eq_none_iff.1 hm
        subst this
        exact absurd h4 (hpt.2.1 rfl)
      · have hml : 0 < m.length := by
          cases m with
          | nil => cases hm
          | cons a m => exact Nat.succ_pos _
        have := hpt.2.2 p hml (by rw [List.getElem?_append_left (by omega), ← List.getLast?_eq_getElem?]; exact hm)
        exact decide_eq_true (this.2.1 h4).1
    · have h2 := ih (m ++ [t]) (by rw [List.append_assoc]; exact hp) (by rw [List.append_assoc]; exact hl)
      rw [List.getLast?_concat] at h2
      exact h2
theorem order_all (s : ByteArray) (hs : s.size ≤ 65536) (he : (allD s).2.err = 0) : Order false (allD s).1 := by
  obtain ⟨h1, h2⟩ := (places s hs).2 he
  exact order_of (allD s).1 [] h1 h2
/-- The end's text in the law. -/
def remT : List UInt8 := [35, 32, 120, 32, 48, 48, 55, 32, 65, 10, 10]
def piece (g : List UInt8) (t : TokD) : List UInt8 := g ++ if t.kind = 4 then remT else t.text
def pieces : List (List UInt8) → List TokD → List UInt8
  | g :: gs, t :: l => piece g t ++ pieces gs l
  | _, _ => []
def IsGap (g : List UInt8) : Prop := (∃ r, g = 32 :: r) ∧ ∀ b ∈ g, b = 32 ∨ b = 9
theorem pieces_head : ∀ (gs : List (List UInt8)) (l : List TokD), (∀ g ∈ gs, IsGap g) → ∀ b r, pieces gs l = b :: r → Nm.cls b = 0 := by
  intro gs l hg b r h
  cases gs with
  | nil => cases h
  | cons g gs =>
    cases l with
    | nil => cases h
    | cons t l =>
      obtain ⟨⟨x, hx⟩, _⟩ := hg g List.mem_cons_self
      unfold pieces piece at h
      rw [hx] at h
      injection h with h _
      rw [← h]; rfl
theorem relex : ∀ (l : List TokD) (gs : List (List UInt8)) (ks : List (Int × List UInt8 × Int)) (sm : Bool), gs.length = l.length → (∀ g ∈ gs, IsGap g) → (∀ t ∈ l, GoodT t) → Order sm l → Mid F (pieces gs l) ks sm → F.out.map key = ks ++ l.map key ∧ F.err = 0 := by
  intro l
  induction l with
  | nil =>
    intro gs ks sm hl _ _ ho h
    have hgs : gs = [] := List.eq_nil_of_length_eq_zero hl
    subst hgs
    obtain rfl : sm = false := ho
    rw [List.map_nil, List.append_nil]
    exact h.fin
  | cons t l ih =>
    intro gs ks sm hl hg ht ho h
    cases gs with
    | nil => cases hl
    | cons g gs =>
      obtain ⟨o1, o2⟩ := ho
      have hg2 : ∀ x ∈ gs, IsGap x := fun x hx => hg x (List.mem_cons_of_mem _ hx)
      have ht2 : ∀ x ∈ l, GoodT x := fun x hx => ht x (List.mem_cons_of_mem _ hx)
      have hl2 : gs.length = l.length := by simpa using hl
      have hgt := ht t List.mem_cons_self
      unfold pieces piece at h
      rw [List.append_assoc] at h
      have h1 := Mid.blanks (hg g List.mem_cons_self).2 h
      rw [List.map_cons, ← List.singleton_append, ← List.append_assoc]
      by_cases h4 : t.kind = 4
      · rw [if_pos h4] at h1
        obtain rfl := o1 h4
        have h2 : Mid F (10 :: (10 :: pieces gs l)) ks true := Mid.remark (m := [32, 120, 32, 48, 48, 55, 32, 65]) (by decide) h1
        have h3 := (h2.line).line
        rw [if_pos rfl, if_neg (by decide)] at h3
        have hk : key t = endK := by
          rcases hgt with hgt | hgt | hgt
          · unfold key; rw [hgt.1, hgt.2.1, hgt.2.2]; rfl
          · have := hgt.1; rw [h4] at this; split at this <;> cases this
          · have := hgt.1; rw [h4] at this; cases this
        rw [hk]
        refine ih gs _ false hl2 hg2 ht2 ?_ h3
        have : decide (t.kind ≠ 4) = false := decide_eq_false fun h => h h4
        rw [this] at o2
        exact o2
      · rw [if_neg h4] at h1
        have h2 := h1.tok hgt h4 (pieces_head gs l hg2)
        refine ih gs _ true hl2 hg2 ht2 ?_ h2
        have : decide (t.kind ≠ 4) = true := decide_eq_true h4
        rw [this] at o2
        exact o2
/-- Tokens with gaps between, remarks at lines' ends, are cut as the like. -/
theorem blanks_all (s u : ByteArray) (hs : s.size ≤ 65536) (hz : u.size ≤ 65536) (he : (allD s).2.err = 0) (gs : List (List UInt8)) (hl : gs.length = (allD s).1.length) (hg : ∀ g ∈ gs, IsGap g) (hu : u.data.toList = pieces gs (allD s).1) :
    (allD u).2 = ⟨0, 0, 0⟩ ∧ (allD u).1.map key = (allD s).1.map key := by
  have hm := Mid.start u hz
  rw [hu] at hm
  obtain ⟨h1, h2⟩ := relex (allD s).1 gs [] false hl hg (good_all s) (order_all s hs he) hm
  have e : allD u = ((lexed u).out, ⟨0, 0, 0⟩) := by
    unfold allD
    rw [if_neg (by omega), if_neg (fun h => h h2)]
  rw [e]
  exact ⟨rfl, by rw [h1]; rfl⟩
end Go.Proofs.YteonefgbdphmiaaGreatDoor
/- The lexer: its plain words and laws. -/
