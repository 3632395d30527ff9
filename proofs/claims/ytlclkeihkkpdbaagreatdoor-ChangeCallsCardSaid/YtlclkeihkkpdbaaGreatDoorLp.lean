/- Where tokens stand (plain): the law LexPlaces of the machine. -/
import Derived.Test.YtlclkeihkkpdbaaGreatDoorLn
namespace Go.Proofs.YtlclkeihkkpdbaaGreatDoor
open Go.RowKit
/-- Where the lines that begin ahead of n, or at it, begin. -/
def startsTo (L : List UInt8) (n : Nat) : List Nat := 0 :: ((List.range n).filter (fun j => L.getD j 0 == 10)).map (· + 1)
theorem startsTo_yes (L : List UInt8) (n : Nat) (h : L.getD n 0 = 10) : startsTo L (n + 1) = startsTo L n ++ [n + 1] := by
  unfold startsTo
  rw [List.range_succ, List.filter_append, List.map_append, List.filter_cons_of_pos (by simpa using h)]
  rfl
theorem startsTo_no (L : List UInt8) (n : Nat) (h : L.getD n 0 ≠ 10) : startsTo L (n + 1) = startsTo L n := by
  unfold startsTo
  rw [List.range_succ, List.filter_append, List.map_append, List.filter_cons_of_neg (by simpa using h)]
  simp
theorem startsTo_prefix (L : List UInt8) (n k : Nat) : ∃ r, startsTo L (n + k) = startsTo L n ++ r := by
  induction k with
  | zero => exact ⟨[], by simp⟩
  | succ k ih =>
    obtain ⟨r, h⟩ := ih
    by_cases h1 : L.getD (n + k) 0 = 10
    · exact ⟨r ++ [n + k + 1], by rw [← Nat.add_assoc, startsTo_yes L _ h1, h, List.append_assoc]⟩
    · exact ⟨r, by rw [← Nat.add_assoc, startsTo_no L _ h1, h]⟩
theorem startsTo_skip (L : List UInt8) (p n : Nat) (h : ∀ j, p ≤ j → j < p + n → L.getD j 0 ≠ 10) : startsTo L (p + n) = startsTo L p := by
  induction n with
  | zero => rfl
  | succ n ih => rw [← Nat.add_assoc, startsTo_no L _ (h (p + n) (by omega) (by omega)), ih fun j h1 h2 => h j h1 (by omega)]
/-- A token stands in the text at its place. -/
def TokAt (L : List UInt8) (t : TokD) : Prop :=
  ∃ ln cl og : Nat, t.line = (ln : Int) + 1 ∧ t.col = (cl : Int) + 1 ∧ (startsTo L L.length)[ln]? = some og ∧
    ((t.kind = 4 ∧ t.text = [] ∧ og + cl ≤ L.length ∧ (og + cl < L.length → L.getD (og + cl) 0 = 10)) ∨
     (t.kind ≠ 4 ∧ 0 < t.text.length ∧ og + cl + t.text.length ≤ L.length ∧ (L.drop (og + cl)).take t.text.length = t.text))
/-- One token behind another one. -/
def Behind (p t : TokD) : Prop := (p.line < t.line ∨ (p.line = t.line ∧ p.col < t.col)) ∧ (t.kind = 4 → p.kind ≠ 4 ∧ p.line = t.line) ∧ (t.kind ≠ 4 → p.kind ≠ 4 → p.line = t.line)
def Pl (L : List UInt8) (l : List TokD) : Prop := ∀ i t, l[i]? = some t → TokAt L t ∧ (i = 0 → t.kind ≠ 4) ∧ ∀ p, 0 < i → l[i - 1]? = some p → Behind p t
theorem Pl.nil (L : List UInt8) : Pl L [] := fun i t h => by simp at h
theorem Pl.snoc {L : List UInt8} {l : List TokD} {t : TokD} (h : Pl L l) (h1 : TokAt L t) (h2 : l = [] → t.kind ≠ 4) (h3 : ∀ p, l.getLast? = some p → Behind p t) : Pl L (l ++ [t]) := by
  intro i x hx
  rw [List.getElem?_append] at hx
  split at hx
  · rename_i hi
    obtain ⟨k1, k2, k3⟩ := h i x hx
    refine ⟨k1, k2, fun p hp hq => ?_⟩
    rw [List.getElem?_append_left (by omega)] at hq
    exact k3 p hp hq
  · rename_i hi
    have hil : i = l.length := by
      rcases Nat.eq_or_lt_of_le (Nat.le_of_not_lt hi) with h | h
      · exact h.symm
      · rw [List.getElem?_eq_none (by simp; omega)] at hx; simp at hx
    subst hil
    simp at hx
    subst hx
    refine ⟨h1, fun e => h2 (List.eq_nil_of_length_eq_zero e), fun p hp hq => h3 p ?_⟩
    rw [List.getElem?_append_left (by omega)] at hq
    rw [List.getLast?_eq_getElem?]
    exact hq
theorem list_len (c : Cur) : c.s.data.toList.length = c.s.size := Nm.len_size _
theorem pre_at (p : UInt8 → Bool) (L : List UInt8) (k j : Nat) (h1 : k ≤ j) (h2 : j < k + Nm.pre p (L.drop k)) : p (L.getD j 0) = true := by
  have hle := Nm.pre_le p (L.drop k)
  have := (pre_spec p (L.drop k)).1 (j - k) (by omega) (by omega)
  rw [List.length_drop] at hle
  rw [List.getElem_drop] at this
  simp only [show k + (j - k) = j from by omega] at this
  rw [List.getD_eq_getElem?_getD, List.getElem?_eq_getElem (by omega)]
  exact this
/-- What is true wherever the machine is. -/
structure At (c : Cur) : Prop where
  err : c.err = 0
  at_ : ∃ pre, startsTo c.s.data.toList c.pos = pre ++ [c.org] ∧ pre.length + 1 = c.line
  pl : Pl c.s.data.toList c.out
  last1 : c.some = true → ∃ t, c.out.getLast? = some t ∧ t.kind ≠ 4 ∧ t.line = c.line ∧ t.col + c.org ≤ c.pos
  last0 : c.some = false → ∀ t, c.out.getLast? = some t → t.kind = 4 ∧ t.line < c.line
/-- What is true where it stands. -/
def Fin (c : Cur) : Prop := (c.err ≠ 0 → 1 ≤ c.fl ∧ 1 ≤ c.fc) ∧ (c.err = 0 → Pl c.s.data.toList c.out ∧ ∀ t, c.out.getLast? = some t → t.kind = 4)
theorem At.place {c : Cur} (h : At c) (hp : c.pos ≤ c.s.size) : (startsTo c.s.data.toList c.s.data.toList.length)[c.line - 1]? = some c.org := by
  obtain ⟨pre, h1, h2⟩ := h.at_
  obtain ⟨r, h3⟩ := startsTo_prefix c.s.data.toList c.pos (c.s.size - c.pos)
  rw [show c.pos + (c.s.size - c.pos) = c.s.data.toList.length by rw [list_len]; omega, h1] at h3
  rw [h3, show c.line - 1 = pre.length by omega, List.append_assoc, List.getElem?_append_right (Nat.le_refl _)]
  simp
theorem At.line {c : Cur} (h : At c) : 1 ≤ c.line := by
  obtain ⟨pre, h1, h2⟩ := h.at_
  omega
/-- A token is put. -/
theorem At.put {c : Cur} (h : At c) (ok : c.Ok) (k : Int) (v : Int) (n : Nat) (p : UInt8 → Bool) (hp : p 10 = false) (hk : k ≠ 4) (hn : 0 < n) (hnp : n = Nm.pre p c.rest) : At (c.put k (c.rest.take n) v n) := by
  have hle := Nm.pre_le p c.rest
  have hrl : c.rest.length = c.s.size - c.pos := by unfold Cur.rest; rw [List.length_drop, Nm.len_size]
  have k2 := ok.pos
  have k3 := ok.org
  have hl := h.line
  have hlen : (c.rest.take n).length = n := by rw [List.length_take]; omega
  refine ⟨h.err, ?_, ?_, fun _ => ⟨⟨k, c.rest.take n, v, c.line, c.col c.pos⟩, ?_, hk, rfl, ?_⟩, fun e => (by cases e)⟩
  · obtain ⟨pre, h1, h2⟩ := h.at_
    refine ⟨pre, ?_, h2⟩
    show startsTo c.s.data.toList (c.pos + n) = pre ++ [c.org]
    rw [startsTo_skip _ _ _ fun j h3 h4 e => ?_, h1]
    have := pre_at p c.s.data.toList c.pos j h3 (by rw [hnp] at h4; exact h4)
    rw [e, hp] at this
    cases this
  · refine h.pl.snoc ⟨c.line - 1, c.pos - c.org, c.org, ?_, ?_, h.place k2, .inr ⟨hk, ?_, ?_, ?_⟩⟩ (fun _ => hk) fun q hq => ?_
    · show (c.line : Int) = _; omega
    · show (c.pos : Int) - c.org + 1 = _; omega
    · show 0 < (c.rest.take n).length; omega
    · show c.org + (c.pos - c.org) + (c.rest.take n).length ≤ _
      rw [hlen, list_len]; omega
    · show (c.s.data.toList.drop (c.org + (c.pos - c.org))).take (c.rest.take n).length = c.rest.take n
      rw [hlen, show c.org + (c.pos - c.org) = c.pos by omega]
      rfl
    · rcases hs : c.some
      · obtain ⟨h5, h6⟩ := h.last0 hs q hq
        exact ⟨.inl h6, fun e => absurd e hk, fun _ e => absurd h5 e⟩
      · obtain ⟨t, h5, h6, h7, h8⟩ := h.last1 hs
        rw [hq] at h5
        injection h5 with h5
        subst h5
        exact ⟨.inr ⟨h7, by show q.col < (c.pos : Int) - c.org + 1; omega⟩, fun e => absurd e hk, fun _ _ => h7⟩
  · show (c.out ++ [_]).getLast? = _
    simp
  · show (c.pos : Int) - c.org + 1 + c.org ≤ ((c.pos + n : Nat) : Int)
    omega
theorem At.close {c : Cur} (h : At c) (ok : c.Ok) (hb : c.pos = c.s.size ∨ c.byte = 10) : Pl c.s.data.toList c.close.out ∧ (∀ t, c.close.out.getLast? = some t → t.kind = 4 ∧ t.line < (c.line : Int) + 1) ∧ c.close.err = 0 ∧ c.close.line = c.line ∧ c.close.pos = c.pos ∧ c.close.s = c.s ∧ c.close.org = c.org := by
  have k2 := ok.pos
  have k3 := ok.org
  have hl := h.line
  unfold Cur.close
  rcases hs : c.some
  · simp only [Bool.false_eq_true, if_false]
    exact ⟨h.pl, fun t ht => ⟨(h.last0 hs t ht).1, by have := (h.last0 hs t ht).2; omega⟩, h.err, by trivial, by trivial, by trivial, by trivial⟩
  · simp only [if_true]
    obtain ⟨t, h5, h6, h7, h8⟩ := h.last1 hs
    refine ⟨h.pl.snoc ⟨c.line - 1, c.pos - c.org, c.org, ?_, ?_, h.place k2, .inl ⟨rfl, rfl, ?_, fun h9 => ?_⟩⟩ (fun e => ?_) fun q hq => ?_, fun x hx => ?_, h.err, rfl, Nat.add_zero _, rfl, rfl⟩
    · show (c.line : Int) = _; omega
    · show (c.pos : Int) - c.org + 1 = _; omega
    · rw [list_len]; omega
    · rw [show c.org + (c.pos - c.org) = c.pos by omega]
      rw [list_len] at h9
      exact hb.resolve_left (by omega)
    · rw [e] at h5; simp at h5
    · rw [hq] at h5
      injection h5 with h5
      subst h5
      exact ⟨.inr ⟨h7, by show q.col < (c.pos : Int) - c.org + 1; omega⟩, fun _ => ⟨h6, h7⟩, fun e => absurd rfl e⟩
    · have hx2 : (c.out ++ [(⟨4, [], 0, c.line, c.col c.pos⟩ : TokD)]).getLast? = some x := hx
      simp at hx2
      subst hx2
      exact ⟨rfl, by show (c.line : Int) < _; omega⟩
theorem at_go {c : Cur} (h : At c) (q : Nat) (hq : c.pos ≤ q) (hno : ∀ j, c.pos ≤ j → j < q → c.s.data.toList.getD j 0 ≠ 10) : At (c.go q) := by
  refine ⟨h.err, ?_, h.pl, fun e => ?_, h.last0⟩
  · obtain ⟨pre, h1, h2⟩ := h.at_
    refine ⟨pre, ?_, h2⟩
    show startsTo c.s.data.toList q = pre ++ [c.org]
    rw [show q = c.pos + (q - c.pos) by omega, startsTo_skip _ _ _ fun j h3 h4 => hno j h3 (by omega), h1]
  · obtain ⟨t, h5, h6, h7, h8⟩ := h.last1 e
    exact ⟨t, h5, h6, h7, by show t.col + (c.org : Int) ≤ (q : Int); omega⟩
theorem fin_fail {c : Cur} (hl : 1 ≤ c.line) (e : Int) (he : e ≠ 0) (p : Nat) (hp : c.org ≤ p) : Fin (c.fail e p) :=
  ⟨fun _ => ⟨by show (1 : Int) ≤ (c.line : Int); omega, by show (1 : Int) ≤ (p : Int) - c.org + 1; omega⟩, fun h => absurd h he⟩
theorem at_step {st : St} {c : Cur} (hi : Inv st c) (h : At c) (hs : st ≠ .none) : ((stepSt st c).1 = .none ∧ Fin (stepSt st c).2) ∨ ((stepSt st c).1 ≠ .none ∧ At (stepSt st c).2) := by
  have ok := hi.ok
  have k2 := ok.pos
  have k3 := ok.org
  have hl := h.line
  cases st with
  | none => exact absurd rfl hs
  | any =>
    show ((stepAny c).1 = .none ∧ Fin (stepAny c).2) ∨ ((stepAny c).1 ≠ .none ∧ At (stepAny c).2)
    unfold stepAny
    by_cases h1 : c.pos = c.s.size ∨ c.byte = 10
    · rw [if_pos h1]; exact .inr ⟨St.noConfusion, h⟩
    · rw [if_neg h1]
      by_cases h2 : c.byte = 35
      · rw [if_pos h2]; exact .inr ⟨St.noConfusion, h⟩
      · rw [if_neg h2]
        by_cases h3 : c.byte = 32 ∨ c.byte = 9
        · rw [if_pos h3]
          refine .inr ⟨St.noConfusion, at_go h (c.pos + 1) (by omega) fun j h4 h5 e => h1 (.inr ?_)⟩
          have : j = c.pos := by omega
          rw [this] at e
          exact e
        · rw [if_neg h3]
          by_cases h4 : Nm.cls c.byte = 1
          · rw [if_pos h4]; exact .inr ⟨St.noConfusion, h⟩
          · rw [if_neg h4]
            by_cases h5 : Nm.cls c.byte = 2
            · rw [if_pos h5]; exact .inr ⟨St.noConfusion, h⟩
            · rw [if_neg h5]; exact .inl ⟨rfl, fin_fail hl 7 (by decide) _ k3⟩
  | end_ =>
    show ((stepEnd c).1 = .none ∧ Fin (stepEnd c).2) ∨ ((stepEnd c).1 ≠ .none ∧ At (stepEnd c).2)
    obtain ⟨c1, c2, c3, c4, c5, c6, c7⟩ := h.close ok (hi.end_ rfl)
    unfold stepEnd
    by_cases h1 : c.pos = c.s.size
    · rw [if_pos h1]
      exact .inl ⟨rfl, fun e => absurd c3 e, fun _ => ⟨by rw [c6]; exact c1, fun t ht => (c2 t ht).1⟩⟩
    · rw [if_neg h1]
      have hb : c.byte = 10 := (hi.end_ rfl).resolve_left h1
      refine .inr ⟨St.noConfusion, c3, ?_, by show Pl c.close.s.data.toList c.close.out; rw [c6]; exact c1, fun e => (by cases e), fun _ t ht => ?_⟩
      · obtain ⟨pre, h1, h2⟩ := h.at_
        refine ⟨pre ++ [c.org], ?_, by show (pre ++ [c.org]).length + 1 = c.close.line + 1; rw [c4, List.length_append, List.length_singleton]; omega⟩
        show startsTo c.close.s.data.toList (c.close.pos + 1) = pre ++ [c.org] ++ [c.close.pos + 1]
        rw [c5, c6, startsTo_yes _ _ hb, h1]
      · obtain ⟨h5, h6⟩ := c2 t ht
        exact ⟨h5, by show t.line < ((c.close.line + 1 : Nat) : Int); rw [c4]; omega⟩
  | remark =>
    have he := eol_spec c k2
    refine .inr ⟨St.noConfusion, at_go h c.eol (by unfold Cur.eol; omega) fun j h4 h5 e => ?_⟩
    have := pre_at (fun b => b != 10) c.s.data.toList c.pos j h4 h5
    rw [e] at this
    cases this
  | word =>
    obtain ⟨hlt, hb⟩ := hi.word rfl
    have hn : 1 ≤ Nm.pre Nm.more c.rest := by rw [rest_head c hlt]; exact pre_pos _ _ _ (cls_one hb)
    show ((stepWord c).1 = .none ∧ Fin (stepWord c).2) ∨ ((stepWord c).1 ≠ .none ∧ At (stepWord c).2)
    unfold stepWord
    by_cases h24 : 24 < Nm.pre Nm.more c.rest
    · simp only [if_pos h24]
      exact .inl ⟨trivial, fin_fail hl 3 (by decide) _ k3⟩
    · simp only [if_neg h24]
      exact .inr ⟨St.noConfusion, h.put ok _ _ _ Nm.more (by decide) (by split <;> decide) (by omega) rfl⟩
  | number =>
    obtain ⟨hlt, hb⟩ := hi.number rfl
    have hn : 1 ≤ Nm.pre Nm.dig c.rest := by rw [rest_head c hlt]; exact pre_pos _ _ _ (cls_two hb)
    show ((stepNumber c).1 = .none ∧ Fin (stepNumber c).2) ∨ ((stepNumber c).1 ≠ .none ∧ At (stepNumber c).2)
    unfold stepNumber
    by_cases h7 : Tk.parseE (c.rest.take (Nm.pre Nm.dig c.rest)) = 7
    · simp only [if_pos h7]
      exact .inl ⟨trivial, fin_fail hl 7 (by decide) _ k3⟩
    · by_cases h0 : Tk.parseE (c.rest.take (Nm.pre Nm.dig c.rest)) ≠ 0
      · simp only [if_neg h7, if_pos h0]
        exact .inl ⟨trivial, fin_fail hl 3 (by decide) _ k3⟩
      · by_cases hq : Nm.pre Nm.dig c.rest < c.rest.length ∧ Nm.cls (c.rest.getD (Nm.pre Nm.dig c.rest) 0) ≠ 0
        · simp only [if_neg h7, if_neg h0, if_pos hq]
          exact .inl ⟨trivial, fin_fail hl 7 (by decide) _ (by omega)⟩
        · simp only [if_neg h7, if_neg h0, if_neg hq]
          exact .inr ⟨St.noConfusion, h.put ok _ _ _ Nm.dig (by decide) (by decide) (by omega) rfl⟩
theorem stepSt_s (st : St) (c : Cur) : (stepSt st c).2.s = c.s := by
  cases st with
  | none => rfl
  | any => show (stepAny c).2.s = c.s; unfold stepAny; repeat' split <;> try rfl
  | end_ =>
    show (stepEnd c).2.s = c.s
    unfold stepEnd Cur.close
    split
    · show (if c.some = true then _ else c).s = c.s; split <;> rfl
    · show (if c.some = true then _ else c).s = c.s; split <;> rfl
  | remark => rfl
  | word => show (stepWord c).2.s = c.s; unfold stepWord; dsimp only; split <;> rfl
  | number => show (stepNumber c).2.s = c.s; unfold stepNumber; dsimp only; repeat' split <;> try rfl
theorem at_runs : ∀ (n : Nat) {st : St} {c : Cur}, mu st c ≤ n → ((st = .none ∧ Fin c) ∨ (st ≠ .none ∧ Inv st c ∧ At c)) → Fin (runs n st c).2 ∧ (runs n st c).2.s = c.s := by
  intro n
  induction n with
  | zero =>
    intro st c hm h
    rcases h with ⟨_, h⟩ | ⟨h, _⟩
    · exact ⟨h, rfl⟩
    · cases st <;> simp only [mu] at hm <;> first | omega | exact absurd rfl h
  | succ n ih =>
    intro st c hm h
    rcases h with ⟨h1, h⟩ | ⟨h1, h2, h3⟩
    · subst h1
      simp only [runs, if_true]
      exact ⟨h, trivial⟩
    · simp only [runs, if_neg h1]
      obtain ⟨h4, h5⟩ := step_inv h2 h1
      have h6 := ih (by omega) (st := (stepSt st c).1) (c := (stepSt st c).2) (by
        rcases at_step h2 h3 h1 with h | ⟨h7, h8⟩
        · exact .inl h
        · exact .inr ⟨h7, h4.resolve_left h7, h8⟩)
      exact ⟨h6.1, by rw [h6.2, stepSt_s]⟩
theorem at_start (s : ByteArray) : At (Cur.start s) := ⟨rfl, ⟨[], rfl, rfl⟩, Pl.nil _, fun e => (by cases e), fun _ t ht => (by cases ht)⟩
/-- Where tokens, and faults, stand. -/
theorem places (s : ByteArray) (hs : s.size ≤ 65536) : ((allD s).2.err ≠ 0 → (allD s).1 = [] ∧ 1 ≤ (allD s).2.line ∧ 1 ≤ (allD s).2.col) ∧ ((allD s).2.err = 0 → Pl s.data.toList (allD s).1 ∧ ∀ t, (allD s).1.getLast? = some t → t.kind = 4) := by
  obtain ⟨⟨h1, h2⟩, h3⟩ := at_runs (2 * s.size + 2) (st := .any) (c := Cur.start s) (by show 2 * (s.size - 0) + 2 ≤ _; omega) (.inr ⟨St.noConfusion, start_inv s hs, at_start s⟩)
  have h3' : (lexed s).s = s := h3
  unfold allD
  rw [if_neg (Nat.not_lt.2 hs)]
  by_cases he : (lexed s).err = 0
  · rw [if_neg (fun h => h he)]
    refine ⟨fun h => absurd rfl h, fun _ => ?_⟩
    have := h2 he
    rw [show (runs (2 * s.size + 2) St.any (Cur.start s)).2 = lexed s from rfl, h3'] at this
    exact this
  · rw [if_pos he]
    exact ⟨fun _ => ⟨rfl, h1 he⟩, fun e => absurd e he⟩
end Go.Proofs.YtlclkeihkkpdbaaGreatDoor
