/- Small words and laws that the reference's lexer and parser need. -/
import Derived.Test.YteonefgbdphmiaaGreatDoorLz
import Derived.Test.YteonefgbdphmiaaGreatDoorBd
import Derived.Test.YteonefgbdphmiaaGreatDoorZa
import Derived.Test.YteonefgbdphmiaaGreatDoorSy
import Derived.Test.YteonefgbdphmiaaGreatDoorMh
import Derived.Deep.CutBlock
import Derived.Deep.CutRange
import Derived.Deep.DeepCutAuto
import Derived.Test.YteonefgbdphmiaaGreatDoorSk
import Derived.Laws.CopyOwn
import Derived.Laws.Tables
import Derived.BigQuiet
import Derived.Deep.QuietTactic
namespace Go.Proofs.YteonefgbdphmiaaGreatDoor
open Go.RowKit
theorem dig_is (c : UInt8) : Nm.dig c = Tk.isDig c := by
  rw [Bool.eq_iff_iff, Tk.isDig_iff]
  unfold Nm.dig
  rw [decide_eq_true_eq]
def IsTk (n : Int) : Prop := 0 ≤ n ∧ n ≤ 1099511627776
theorem num_parts {n : Int} (h : IsTk n) : (∃ b r, Lib.itoa n = b :: r ∧ Nm.cls b = 2) ∧ (Lib.itoa n).all Nm.dig = true ∧ Tk.parseE (Lib.itoa n) = 0 ∧ Tk.parseV (Lib.itoa n) = n ∧ (Lib.itoa n).length ≤ 24 := by
  have hT : Tk.isT n = true := Tk.isT_tick h
  have hr : Tk.textB n = Lib.itoa n := by unfold Tk.textB; rw [if_neg (by have := h.2; omega), if_pos hT]
  have hp := Tk.parse_text hT
  rw [hr] at hp
  have hl := Lib.itoa_length_le n (by have := h.1; omega) (by have := h.2; omega)
  obtain ⟨m, rfl⟩ := Int.eq_ofNat_of_zero_le h.1
  rw [Lib.itoa_nonneg] at hp hl ⊢
  have hd := Tk.dec_digs m
  have hd2 : (Lib.decDigits m).all Nm.dig = true := by
    rw [List.all_eq_true] at hd ⊢
    intro x hx
    rw [dig_is]; exact hd x hx
  refine ⟨?_, hd2, hp.1, hp.2, by omega⟩
  cases he : Lib.decDigits m with
  | nil => exact absurd he (Tk.dec_ne m)
  | cons b r =>
    refine ⟨b, r, rfl, ?_⟩
    rw [he, List.all_cons, Bool.and_eq_true] at hd2
    have := Nm.cls_dig b
    rw [hd2.1] at this
    exact beq_iff_eq.1 this
theorem name_parts {l : List UInt8} (h : Nm.name l = true) : (∃ b r, l = b :: r ∧ Nm.cls b = 1) ∧ l.all Nm.more = true ∧ l.length ≤ 24 ∧ Nm.res l = false := by
  unfold Nm.name Nm.word at h
  simp only [Bool.and_eq_true, decide_eq_true_eq, Bool.not_eq_true'] at h
  obtain ⟨⟨⟨⟨h1, h2⟩, h3⟩, h4⟩, h5⟩ := h
  refine ⟨?_, h4, h2, h5⟩
  cases l with
  | nil => exact absurd h1 (Nat.lt_irrefl _)
  | cons b r => exact ⟨b, r, rfl, by unfold Nm.cls; rw [if_pos (show Nm.low b = true from h3)]⟩
/-- Three cells of a block written. -/
theorem set3 {w w0 : World} {h B : Nat} {z0 z1 z2 : Value} {t : TypeId} (y0 y1 y2 : Value) (hf : w.heap[h]? = some (.cells #[z0, z1, z2] t (0, 0))) (hb : Below B w0 w) (hB : B ≤ h) :
    (((w.setCell ⟨h, 0, none⟩ y0).setCell ⟨h, 1, none⟩ y1).setCell ⟨h, 2, none⟩ y2).heap[h]? = some (.cells #[y0, y1, y2] t (0, 0)) ∧ (∀ c, c ≠ h → (((w.setCell ⟨h, 0, none⟩ y0).setCell ⟨h, 1, none⟩ y1).setCell ⟨h, 2, none⟩ y2).heap[c]? = w.heap[c]?) ∧ Below B w0 (((w.setCell ⟨h, 0, none⟩ y0).setCell ⟨h, 1, none⟩ y1).setCell ⟨h, 2, none⟩ y2) := by
  have c0 := heap_setCell_same w h 0 _ _ y0 hf
  simp only [List.setIfInBounds_toArray, List.set_cons_zero] at c0
  have c1 := heap_setCell_same _ h 1 _ _ y1 c0
  simp only [List.setIfInBounds_toArray, List.set_cons_zero, List.set_cons_succ] at c1
  have c2 := heap_setCell_same _ h 2 _ _ y2 c1
  simp only [List.setIfInBounds_toArray, List.set_cons_zero, List.set_cons_succ] at c2
  exact ⟨c2, fun c hc => by repeat rw [Below.heap_setCell _ _ _ _ (by show c ≠ h; exact hc)], ((hb.setCell (p := ⟨h, 0, none⟩) hB y0).setCell (p := ⟨h, 1, none⟩) hB y1).setCell (p := ⟨h, 2, none⟩) hB y2⟩
theorem step_out {st : St} {c : Cur} (hi : Inv st c) : (stepSt st c).2.out.length ≤ 2 * c.s.size := by
  have ok := hi.ok
  have k2 := ok.pos
  have ho := hi.out
  have h : c.out.length ≤ 2 * c.s.size := by omega
  by_cases hs : st = .none
  · subst hs; exact h
  rcases (step_inv hi hs).1 with h1 | h1
  · cases st with
    | none => exact h
    | any => show (stepAny c).2.out.length ≤ _; unfold stepAny; (repeat' split) <;> exact h
    | end_ =>
      have hc : c.close.out.length ≤ 2 * c.s.size := by
        unfold Cur.close
        split
        · rename_i hsm
          rw [if_pos hsm] at ho
          show (c.out ++ [_]).length ≤ _
          rw [List.length_append, List.length_singleton]; omega
        · exact h
      show (stepEnd c).2.out.length ≤ _
      unfold stepEnd
      split
      · exact hc
      · exact hc
    | remark => exact h
    | word =>
      revert h1
      show (stepWord c).1 = .none → (stepWord c).2.out.length ≤ _
      unfold stepWord
      dsimp only
      split
      · exact fun _ => h
      · exact fun e => (by cases e)
    | number =>
      revert h1
      show (stepNumber c).1 = .none → (stepNumber c).2.out.length ≤ _
      unfold stepNumber
      dsimp only
      (repeat' split) <;> first | exact fun _ => h | exact fun e => (by cases e)
  · have h2 := h1.out
    have h3 := h1.ok.pos
    rw [stepSt_s] at h3
    omega
theorem runs_out : ∀ (n : Nat) {st : St} {c : Cur}, (st = .none ∨ Inv st c) → c.out.length ≤ 2 * c.s.size → (runs n st c).2.out.length ≤ 2 * c.s.size := by
  intro n
  induction n with
  | zero => intro st c _ h; exact h
  | succ n ih =>
    intro st c hi h
    by_cases hs : st = .none
    · subst hs; simp only [runs, if_true]; exact h
    · simp only [runs, if_neg hs]
      have hj := hi.resolve_left hs
      have h2 := ih (step_inv hj hs).1 (by rw [stepSt_s]; exact step_out hj)
      rw [stepSt_s] at h2
      exact h2
theorem tok_count (s : ByteArray) : (allD s).1.length ≤ 2 * s.size := by
  unfold allD
  split
  · exact Nat.zero_le _
  · rename_i hs
    split
    · exact Nat.zero_le _
    · exact runs_out _ (.inr (start_inv s (by omega))) (Nat.zero_le _)
theorem Ow.keepB {α : Type} {c : α → List Value} {size base : Nat} {e : TypeId} {v : Value} {l : List α} {w w' : World} (h : Ow c size w base e v l) (hk : ∀ b, base ≤ b → b < w.heap.size → w'.heap[b]? = w.heap[b]?) : Ow c size w' base e v l := by
  refine ⟨h.1, ?_⟩
  rcases h.2 with h0 | ⟨g, cap, cur, rfl, h1, h2, h3⟩
  · exact .inl h0
  · exact .inr ⟨g, cap, cur, rfl, h1, (hk g h1 (Array.getElem?_eq_some_iff.1 h2).1).trans h2, h3⟩
/-- Rows of unlike types lie in unlike blocks. -/
theorem ow_apart {α β : Type} {c1 : α → List Value} {c2 : β → List Value} {s1 s2 B1 B2 : Nat} {e1 e2 : TypeId} {v1 v2 : Value} {l1 : List α} {l2 : List β} {w : World} (h1 : Ow c1 s1 w B1 e1 v1 l1) (h2 : Ow c2 s2 w B2 e2 v2 l2) (hne : e1 ≠ e2) : v1.ownBlock = none ∨ v1.ownBlock ≠ v2.ownBlock := by
  rcases h1.2 with ⟨rfl, _⟩ | ⟨g, cap, cur, rfl, _, hg, _⟩
  · exact .inl rfl
  · refine .inr fun h => ?_
    rcases h2.2 with ⟨rfl, _⟩ | ⟨g2, cap2, cur2, rfl, _, hg2, _⟩
    · cases h
    · have e : g = g2 := by simpa [Value.ownBlock] using h
      subst e
      rw [hg] at hg2
      injection hg2 with hg2
      injection hg2 with _ h3 _
      exact hne h3
end Go.Proofs.YteonefgbdphmiaaGreatDoor
/- The walks of timetableref01.Parse, timetableref04.number and one. -/
namespace Go.Proofs.YteonefgbdphmiaaGreatDoor
open Go.RowKit
/-- The first loop's state. -/
def RIn (s : ByteArray) (s5 : Value) : Prop := ∃ k : Nat, s5 = .int .i64 k ∧ k ≤ s.size ∧ Hid (∀ j, j < k → Tk.isDig (s.data.toList.getD j 0) = true)
theorem RIn.step {s : ByteArray} {k : Nat} (hk : k < s.size) (h : Hid (∀ j, j < k → Tk.isDig (s.data.toList.getD j 0) = true)) {c : UInt8} (hc : Hid (s.data.toList.getD k 0 = c)) (hd : Hid (Tk.isDig c = true)) :
    RIn s (.int .i64 (k + 1 : Nat)) := by
  refine ⟨k + 1, rfl, hk, Lib.hid fun j hj => ?_⟩
  rcases Nat.lt_succ_iff_lt_or_eq.1 hj with h1 | rfl
  · exact h.out j h1
  · rw [hc.out]; exact hd.out
theorem getD_at (s : ByteArray) (k : Nat) (h : k < s.size) : s.data.toList.getD k 0 = s[k] := by
  rw [List.getD_eq_getElem?_getD, List.getElem?_eq_getElem (by simpa using h)]
  simp
  rfl

/-- The second loop's state: the number so far. -/
def RVal (s : ByteArray) (s4 s6 : Value) : Prop := ∃ k N : Nat, s6 = .int .i64 k ∧ s4 = .int .i64 N ∧ k ≤ s.size ∧ Hid (Tk.val 0 (s.data.toList.take k) = N) ∧ N ≤ 1099511627776
theorem val_take {s : ByteArray} {k N : Nat} {c : UInt8} (hk : k < s.size) (hN : Tk.val 0 (s.data.toList.take k) = N) (hc : s.data.toList.getD k 0 = c) : Tk.val 0 (s.data.toList.take (k + 1)) = N * 10 + (c.toNat - 48) := by
  have hl : k < s.data.toList.length := by simpa using hk
  rw [List.take_succ_eq_append_getElem hl, Tk.val_snoc, hN, ← hc, List.getD_eq_getElem?_getD, List.getElem?_eq_getElem hl]
  rfl
theorem RVal.step {s : ByteArray} {k N : Nat} {c : UInt8} (hk : k < s.size) (h : Hid (Tk.val 0 (s.data.toList.take (k + 1)) = N * 10 + (c.toNat - 48))) (hc : 48 ≤ c.toNat) (hm : 10 * (N : Int) + ((c.toNat : Int) - 48) ≤ 1099511627776) :
    RVal s (.int .i64 (10 * (N : Int) + ((c.toNat : Int) - 48))) (.int .i64 ((k : Int) + 1)) :=
  ⟨k + 1, N * 10 + (c.toNat - 48), rfl, by congr 1; omega, hk, h, by omega⟩
theorem val_all_ge (l : List UInt8) (k : Nat) : Tk.val 0 (l.take k) ≤ Tk.val 0 l := by
  have : Tk.val 0 l = Tk.val (Tk.val 0 (l.take k)) (l.drop k) := by
    unfold Tk.val
    rw [← List.foldl_append, List.take_append_drop]
  rw [this]
  exact Tk.val_ge _ _

def zeroT : TokD := ⟨0, [], 0, 0, 0⟩
theorem results_cttt {P : Program} {fn : Func} {p q r s : Tmp} {ty : TypeId} (h : fn.results = #[.cell p ty, .tmp q, .tmp r, .tmp s]) (tmps : Array Value) (w : World) (g : Nat) (t : TypeId) (cs : Array Value) (fr : Nat × Nat) (d : TypeDesc)
    (hp : tmps.getD p undef = .pointer (some ⟨g, 0, none⟩)) (hg : w.heap[g]? = some (.cells cs t fr))
    (hu : P.underlying ty = some d) (hd : (match d with | .struct _ | .array _ _ => true | _ => false) = true) (hi : (P.info? ty).map (·.size) = some cs.size) :
    (results fn tmps).run P w = .ok (.tuple #[.agg cs, tmps.getD q undef, tmps.getD r undef, tmps.getD s undef]) w := by
  have hp' : tmps[p]?.getD undef = .pointer (some ⟨g, 0, none⟩) := by simpa using hp
  simp [results, h, hp', asAddr, run_loadVar_row w g t ty cs fr d hg hu hd hi]
/-- What number tells: the token, how many bytes, the error, how far behind. -/
def refNum (L : List UInt8) : TokD × Nat × Int × Nat :=
  if Nm.pre Nm.dig L < L.length ∧ Nm.more (L.getD (Nm.pre Nm.dig L) 0) = true then
    if 1 < Nm.pre Nm.dig L ∧ L.headD 0 = 48 then (zeroT, 0, 7, 0)
    else if Tk.parseE (L.take (Nm.pre Nm.dig L)) ≠ 0 then (zeroT, 0, 3, 0) else (zeroT, 0, 7, Nm.pre Nm.dig L)
  else if Tk.parseE (L.take (Nm.pre Nm.dig L)) = 7 then (zeroT, 0, 7, 0)
  else if Tk.parseE (L.take (Nm.pre Nm.dig L)) ≠ 0 then (zeroT, 0, 3, 0)
  else (⟨3, L.take (Nm.pre Nm.dig L), Tk.parseV (L.take (Nm.pre Nm.dig L)), 0, 0⟩, Nm.pre Nm.dig L, 0, 0)
theorem ba_cut0 (s : ByteArray) (n : Nat) : s.extract 0 n = ba (s.data.toList.take n) := by
  apply ByteArray.ext
  apply Array.ext'
  rw [ByteArray.data_extract]
  simp [ba]
/-- What one tells. -/
def refOne (L : List UInt8) : TokD × Nat × Int × Nat :=
  if Nm.dig (L.headD 0) = true then refNum L
  else if 24 < Nm.pre Nm.more L then (zeroT, 0, 3, 0)
  else (⟨if Nm.res (L.take (Nm.pre Nm.more L)) = true then 2 else 1, L.take (Nm.pre Nm.more L), 0, 0, 0⟩, Nm.pre Nm.more L, 0, 0)
/-- Five cells of a block written. -/
theorem set5 {w w0 : World} {h B : Nat} {x0 x1 x2 x3 x4 : Value} {t : TypeId} (v0 v1 v2 v3 v4 : Value) (hf : w.heap[h]? = some (.cells #[x0, x1, x2, x3, x4] t (0, 0))) (hb : Below B w0 w) (hB : B ≤ h) :
    (((((w.setCell ⟨h, 0, none⟩ v0).setCell ⟨h, 1, none⟩ v1).setCell ⟨h, 2, none⟩ v2).setCell ⟨h, 3, none⟩ v3).setCell ⟨h, 4, none⟩ v4).heap[h]? = some (.cells #[v0, v1, v2, v3, v4] t (0, 0)) ∧ (∀ c, c ≠ h → (((((w.setCell ⟨h, 0, none⟩ v0).setCell ⟨h, 1, none⟩ v1).setCell ⟨h, 2, none⟩ v2).setCell ⟨h, 3, none⟩ v3).setCell ⟨h, 4, none⟩ v4).heap[c]? = w.heap[c]?) ∧ Below B w0 (((((w.setCell ⟨h, 0, none⟩ v0).setCell ⟨h, 1, none⟩ v1).setCell ⟨h, 2, none⟩ v2).setCell ⟨h, 3, none⟩ v3).setCell ⟨h, 4, none⟩ v4) := by
  have c0 := heap_setCell_same _ h 0 _ _ v0 hf
  simp only [List.setIfInBounds_toArray, List.set_cons_zero] at c0
  have c1 := heap_setCell_same _ h 1 _ _ v1 c0
  simp only [List.setIfInBounds_toArray, List.set_cons_zero, List.set_cons_succ] at c1
  have c2 := heap_setCell_same _ h 2 _ _ v2 c1
  simp only [List.setIfInBounds_toArray, List.set_cons_zero, List.set_cons_succ] at c2
  have c3 := heap_setCell_same _ h 3 _ _ v3 c2
  simp only [List.setIfInBounds_toArray, List.set_cons_zero, List.set_cons_succ] at c3
  have c4 := heap_setCell_same _ h 4 _ _ v4 c3
  simp only [List.setIfInBounds_toArray, List.set_cons_zero, List.set_cons_succ] at c4
  exact ⟨c4, fun c hc => by repeat rw [Below.heap_setCell _ _ _ _ (by show c ≠ h; exact hc)], (((((hb.setCell (p := ⟨h, 0, none⟩) hB v0).setCell (p := ⟨h, 1, none⟩) hB v1).setCell (p := ⟨h, 2, none⟩) hB v2).setCell (p := ⟨h, 3, none⟩) hB v3).setCell (p := ⟨h, 4, none⟩) hB v4)⟩
end Go.Proofs.YteonefgbdphmiaaGreatDoor
/- The walk of timetableref04.All. -/
namespace Go.Proofs.YteonefgbdphmiaaGreatDoor
open Go.RowKit
variable {c : Cur}
theorem step_go {st st2 : St} {c2 : Cur} (h : Inv st c) (hs : st ≠ .none) (he : stepSt st c = (st2, c2)) (hs2 : st2 ≠ .none) : final st c = final st2 c2 ∧ Inv st2 c2 := by
  have h1 := final_step h hs
  have h2 := (step_inv h hs).1
  rw [he] at h1 h2
  exact ⟨h1, h2.resolve_left hs2⟩
theorem step_stop {st : St} {c2 : Cur} (h : Inv st c) (hs : st ≠ .none) (he : stepSt st c = (.none, c2)) : final st c = c2 := by
  have h1 := final_step h hs
  rw [he] at h1
  exact h1
theorem y_end (h : Inv .any c) (hb : c.pos = c.s.size ∨ c.byte = 10) : final .any c = final .end_ c ∧ Inv .end_ c :=
  step_go h St.noConfusion (by show stepAny c = _; unfold stepAny; rw [if_pos hb]) St.noConfusion
theorem y_last (h : Inv .any c) (hp : c.pos = c.s.size) : final .any c = c.close := by
  obtain ⟨h1, h2⟩ := y_end h (.inl hp)
  rw [h1]
  exact step_stop h2 St.noConfusion (by show stepEnd c = _; unfold stepEnd; rw [if_pos hp])
theorem y_down (h : Inv .any c) (hp : c.pos ≠ c.s.size) (hb : c.byte = 10) : final .any c = final .any c.close.down ∧ Inv .any c.close.down := by
  obtain ⟨h1, h2⟩ := y_end h (.inr hb)
  rw [h1]
  exact step_go h2 St.noConfusion (by show stepEnd c = _; unfold stepEnd; rw [if_neg hp]) St.noConfusion
theorem y_blank (h : Inv .any c) (hp : c.pos ≠ c.s.size) (hb : c.byte = 32 ∨ c.byte = 9) : final .any c = final .any { c with pos := c.pos + 1 } ∧ Inv .any { c with pos := c.pos + 1 } :=
  step_go h St.noConfusion (by
    show stepAny c = _
    unfold stepAny
    rw [if_neg (fun h => h.elim hp fun h => by rw [h] at hb; exact absurd hb (by decide)), if_neg (fun h => by rw [h] at hb; exact absurd hb (by decide)), if_pos hb]) St.noConfusion
theorem y_remark (h : Inv .any c) (hp : c.pos ≠ c.s.size) (hb : c.byte = 35) : final .any c = final .any { c with pos := c.eol } ∧ Inv .any { c with pos := c.eol } := by
  obtain ⟨h1, h2⟩ := step_go (st2 := .remark) (c2 := c) h St.noConfusion (by
    show stepAny c = _
    unfold stepAny
    rw [if_neg (fun h => h.elim hp fun h => by rw [h] at hb; exact absurd hb (by decide)), if_pos hb]) St.noConfusion
  rw [h1]
  exact step_go h2 St.noConfusion rfl St.noConfusion
theorem cls_one_low (b : UInt8) : Nm.cls b = 1 ↔ Nm.low b = true := by
  have := Nm.cls_low b
  constructor
  · intro h; rw [h] at this; simpa using this.symm
  · intro h; rw [h] at this; simpa using this
theorem cls_two_dig (b : UInt8) : Nm.cls b = 2 ↔ Nm.dig b = true := by
  have := Nm.cls_dig b
  constructor
  · intro h; rw [h] at this; exact this.symm
  · intro h; rw [h] at this; exact beq_iff_eq.1 this
theorem byte_other (b : UInt8) (h : Nm.low b = true ∨ Nm.dig b = true) : b ≠ 10 ∧ b ≠ 35 ∧ b ≠ 32 ∧ b ≠ 9 := by
  refine ⟨?_, ?_, ?_, ?_⟩ <;> (rintro rfl; revert h; decide)
theorem y_bad (h : Inv .any c) (hp : c.pos ≠ c.s.size) (h1 : c.byte ≠ 10) (h2 : c.byte ≠ 35) (h3 : ¬ (c.byte = 32 ∨ c.byte = 9)) (h4 : Nm.low c.byte = false) (h5 : Nm.dig c.byte = false) : final .any c = c.fail 7 c.pos :=
  step_stop h St.noConfusion (by
    show stepAny c = _
    unfold stepAny
    rw [if_neg (fun h => h.elim hp h1), if_neg h2, if_neg h3, if_neg (fun h => by rw [(cls_one_low _).1 h] at h4; cases h4), if_neg (fun h => by rw [(cls_two_dig _).1 h] at h5; cases h5)])
theorem any_to (h : Inv .any c) (hp : c.pos ≠ c.s.size) (hb : Nm.low c.byte = true ∨ Nm.dig c.byte = true) :
    (Nm.low c.byte = true → final .any c = final .word c ∧ Inv .word c) ∧ (Nm.low c.byte = false → final .any c = final .number c ∧ Inv .number c) := by
  obtain ⟨b1, b2, b3, b4⟩ := byte_other _ hb
  refine ⟨fun hl => ?_, fun hl => ?_⟩
  · exact step_go h St.noConfusion (by
      show stepAny c = _
      unfold stepAny
      rw [if_neg (fun h => h.elim hp b1), if_neg b2, if_neg (fun h => h.elim b3 b4), if_pos ((cls_one_low _).2 hl)]) St.noConfusion
  · have hd : Nm.dig c.byte = true := hb.resolve_left (by rw [hl]; decide)
    exact step_go h St.noConfusion (by
      show stepAny c = _
      unfold stepAny
      rw [if_neg (fun h => h.elim hp b1), if_neg b2, if_neg (fun h => h.elim b3 b4), if_neg (fun h => by rw [(cls_one_low _).1 h] at hl; cases hl), if_pos ((cls_two_dig _).2 hd)]) St.noConfusion
theorem low_not_dig {b : UInt8} (h : Nm.low b = true) : Nm.dig b = false := by
  unfold Nm.low at h
  unfold Nm.dig
  rw [decide_eq_true_eq] at h
  exact decide_eq_false (by omega)
/-- Digits alone: when their numeral is none. -/
theorem parseE_seven {l : List UInt8} (h0 : 0 < l.length) (hd : l.all Nm.dig = true) : Tk.parseE l = 7 ↔ (1 < l.length ∧ l.headD 0 = 48) := by
  have hd2 : l.all Tk.isDig = true := by
    rw [List.all_eq_true] at hd ⊢
    intro x hx
    rw [← dig_is]; exact hd x hx
  have hinf : l ≠ Tk.infB := by
    intro e; rw [e] at hd2; exact absurd hd2 (by decide)
  have hb : Tk.badNum l = decide (1 < l.length ∧ l.headD 0 = 48) := by
    unfold Tk.badNum
    rw [hd2]
    cases l with
    | nil => cases h0
    | cons a r =>
      rw [Bool.eq_iff_iff]
      simp
  unfold Tk.parseE
  rw [if_neg hinf, hb]
  by_cases hh : 1 < l.length ∧ l.headD 0 = 48
  · rw [decide_eq_true hh, if_pos rfl]
    exact ⟨fun _ => hh, fun _ => rfl⟩
  · rw [decide_eq_false hh, if_neg (by decide)]
    constructor
    · intro h
      split at h <;> cases h
    · intro h; exact absurd h hh
theorem more_cls (b : UInt8) : Nm.cls b ≠ 0 ↔ Nm.more b = true := by
  rw [← Nm.cls_more]; simp
/-- What one tells is what the machine does. -/
theorem y_one (h : Inv .any c) (hp : c.pos ≠ c.s.size) (hb : Nm.low c.byte = true ∨ Nm.dig c.byte = true) :
    ((refOne c.rest).2.2.1 ≠ 0 → final .any c = c.fail (refOne c.rest).2.2.1 (c.pos + (refOne c.rest).2.2.2)) ∧
    ((refOne c.rest).2.2.1 = 0 → (refOne c.rest).1.line = 0 ∧ (refOne c.rest).1.col = 0 ∧ 0 < (refOne c.rest).2.1 ∧
      final .any c = final .any (c.put (refOne c.rest).1.kind (refOne c.rest).1.text (refOne c.rest).1.num (refOne c.rest).2.1) ∧ Inv .any (c.put (refOne c.rest).1.kind (refOne c.rest).1.text (refOne c.rest).1.num (refOne c.rest).2.1)) := by
  have hlt : c.pos < c.s.size := by have := h.ok.pos; omega
  have hrest := rest_head c hlt
  obtain ⟨t1, t2⟩ := any_to h hp hb
  have hhd : c.rest.headD 0 = c.byte := by rw [hrest]; rfl
  cases hl : Nm.low c.byte
  · obtain ⟨f1, f2⟩ := t2 hl
    have hd : Nm.dig c.byte = true := hb.resolve_left (by rw [hl]; decide)
    have hn : 1 ≤ Nm.pre Nm.dig c.rest := by rw [hrest]; exact pre_pos _ _ _ hd
    have hnl := Nm.pre_le Nm.dig c.rest
    have hR : refOne c.rest = refNum c.rest := by unfold refOne; rw [hhd, if_pos hd]
    have h7 := parseE_seven (l := c.rest.take (Nm.pre Nm.dig c.rest)) (by rw [List.length_take]; omega) (take_pre_all _ _)
    have hth : (c.rest.take (Nm.pre Nm.dig c.rest)).headD 0 = c.rest.headD 0 := by
      obtain ⟨k, hk⟩ : ∃ k, Nm.pre Nm.dig c.rest = k + 1 := ⟨Nm.pre Nm.dig c.rest - 1, by omega⟩
      rw [hk, hrest]; rfl
    rw [hth, List.length_take, Nat.min_eq_left hnl] at h7
    rw [hR, f1]
    have hst : ∀ st2 c2, stepNumber c = (st2, c2) → stepSt .number c = (st2, c2) := fun _ _ h => h
    unfold refNum
    by_cases hc : Nm.pre Nm.dig c.rest < c.rest.length ∧ Nm.more (c.rest.getD (Nm.pre Nm.dig c.rest) 0) = true
    · rw [if_pos hc]
      have hc2 : Nm.pre Nm.dig c.rest < c.rest.length ∧ Nm.cls (c.rest.getD (Nm.pre Nm.dig c.rest) 0) ≠ 0 := ⟨hc.1, (more_cls _).2 hc.2⟩
      by_cases h1 : 1 < Nm.pre Nm.dig c.rest ∧ c.rest.headD 0 = 48
      · rw [if_pos h1]
        refine ⟨fun _ => step_stop f2 St.noConfusion (hst _ _ ?_), fun h => absurd h (by decide)⟩
        unfold stepNumber
        dsimp only
        rw [if_pos (h7.2 h1)]; rfl
      · rw [if_neg h1]
        have hn7 : ¬ Tk.parseE (c.rest.take (Nm.pre Nm.dig c.rest)) = 7 := fun h => h1 (h7.1 h)
        by_cases h0 : Tk.parseE (c.rest.take (Nm.pre Nm.dig c.rest)) ≠ 0
        · rw [if_pos h0]
          refine ⟨fun _ => step_stop f2 St.noConfusion (hst _ _ ?_), fun h => absurd h (by decide)⟩
          unfold stepNumber
          dsimp only
          rw [if_neg hn7, if_pos h0]; rfl
        · rw [if_neg h0]
          refine ⟨fun _ => step_stop f2 St.noConfusion (hst _ _ ?_), fun h => absurd h (show ¬ (7 : Int) = 0 by decide)⟩
          unfold stepNumber
          dsimp only
          rw [if_neg hn7, if_neg h0, if_pos hc2]
    · rw [if_neg hc]
      have hc2 : ¬ (Nm.pre Nm.dig c.rest < c.rest.length ∧ Nm.cls (c.rest.getD (Nm.pre Nm.dig c.rest) 0) ≠ 0) := fun h => hc ⟨h.1, (more_cls _).1 h.2⟩
      by_cases h7' : Tk.parseE (c.rest.take (Nm.pre Nm.dig c.rest)) = 7
      · rw [if_pos h7']
        refine ⟨fun _ => step_stop f2 St.noConfusion (hst _ _ ?_), fun h => absurd h (by decide)⟩
        unfold stepNumber
        dsimp only
        rw [if_pos h7']; rfl
      · rw [if_neg h7']
        by_cases h0 : Tk.parseE (c.rest.take (Nm.pre Nm.dig c.rest)) ≠ 0
        · rw [if_pos h0]
          refine ⟨fun _ => step_stop f2 St.noConfusion (hst _ _ ?_), fun h => absurd h (by decide)⟩
          unfold stepNumber
          dsimp only
          rw [if_neg h7', if_pos h0]; rfl
        · rw [if_neg h0]
          refine ⟨fun h => absurd rfl h, fun _ => ⟨rfl, rfl, hn, ?_⟩⟩
          refine step_go f2 St.noConfusion (hst _ _ ?_) St.noConfusion
          unfold stepNumber
          dsimp only
          rw [if_neg h7', if_neg h0, if_neg hc2]
  · obtain ⟨f1, f2⟩ := t1 hl
    have hn : 1 ≤ Nm.pre Nm.more c.rest := by rw [hrest]; exact pre_pos _ _ _ (by unfold Nm.more; rw [hl]; rfl)
    have hR : refOne c.rest = if 24 < Nm.pre Nm.more c.rest then (zeroT, 0, 3, 0) else (⟨if Nm.res (c.rest.take (Nm.pre Nm.more c.rest)) = true then 2 else 1, c.rest.take (Nm.pre Nm.more c.rest), 0, 0, 0⟩, Nm.pre Nm.more c.rest, 0, 0) := by
      unfold refOne; rw [hhd, if_neg (by rw [low_not_dig hl]; decide)]
    rw [hR, f1]
    by_cases h24 : 24 < Nm.pre Nm.more c.rest
    · rw [if_pos h24]
      refine ⟨fun _ => step_stop f2 St.noConfusion ?_, fun h => absurd h (by decide)⟩
      show stepWord c = _
      unfold stepWord
      dsimp only
      rw [if_pos h24]; rfl
    · rw [if_neg h24]
      refine ⟨fun h => absurd rfl h, fun _ => ⟨rfl, rfl, hn, ?_⟩⟩
      refine step_go f2 St.noConfusion ?_ St.noConfusion
      show stepWord c = _
      unfold stepWord
      dsimp only
      rw [if_neg h24]
/-- What All tells when the machine stands at a fault, and when it has gone through. -/
theorem y_fault {s : ByteArray} (hs : s.size ≤ 65536) (h : final .any c = lexed s) {e : Int} {p : Nat} (hf : final .any c = c.fail e p) (he : e ≠ 0) : (allD s).1 = [] ∧ (allD s).2 = ⟨e, c.line, c.col p⟩ := by
  have hl : lexed s = c.fail e p := h.symm.trans hf
  have h1 : (lexed s).err = e := by rw [hl]; rfl
  unfold allD
  rw [if_neg (by omega), if_pos (by rw [h1]; exact he), hl]
  exact ⟨rfl, rfl⟩
theorem y_done {s : ByteArray} (hs : s.size ≤ 65536) (he : (lexed s).err = 0) : (allD s).1 = (lexed s).out ∧ (allD s).2 = ⟨0, 0, 0⟩ := by
  unfold allD
  rw [if_neg (by omega), if_neg (fun h => h he)]
  exact ⟨rfl, rfl⟩
end Go.Proofs.YteonefgbdphmiaaGreatDoor
/- The walk of timetableref04.All. -/
namespace Go.Proofs.YteonefgbdphmiaaGreatDoor
open Go.RowKit
theorem alloc_cellsY {w w' : World} {b : Nat} {o : Obj} (h : w.heap[b]? = some o) {x : Obj} (e : w.alloc x = w') : w'.heap[b]? = some o := by
  rw [← e, Below.heap_alloc _ _ _ (Array.getElem?_eq_some_iff.1 h).1]; exact h
theorem refOne_by (L : List UInt8) : (refOne L).2.2.2 ≤ L.length := by
  have h := Nm.pre_le Nm.dig L
  unfold refOne
  split
  · unfold refNum
    (repeat' split) <;> first | exact Nat.zero_le _ | exact h
  · split <;> exact Nat.zero_le _
/-- The loop's state. -/
def AllR (s : ByteArray) (B : Nat) (w0 : World) (gg : Nat) (v4 v5 v6 v7 v8 : Value) (wr : World) : Prop :=
  Below B w0 wr ∧ ((∃ c : Cur, c.s = s ∧ final .any c = lexed s ∧ Inv .any c ∧ c.err = 0 ∧ s.size + 1 - c.pos ≤ gg ∧ v8 = .int .i64 (c.pos : Nat) ∧ v5 = .int .i64 (c.line : Nat) ∧ v6 = .int .i64 (c.org : Nat) ∧ v7 = .bool c.some ∧ Ow tkc 5 wr B 101 v4 c.out) ∨
    ((lexed s).err = 0 ∧ v8 = .int .i64 (s.size + 1 : Nat) ∧ Ow tkc 5 wr B 101 v4 (lexed s).out))
end Go.Proofs.YteonefgbdphmiaaGreatDoor
/- The reader of timetableref05: plain words. -/
namespace Go.Proofs.YteonefgbdphmiaaGreatDoor
open Go.RowKit
/-- Where the reader is, and its first fault. -/
structure Rd where
  at_ : Nat
  e : Int
  ln : Int
  cl : Int
def endT : TokD := ⟨4, [], 0, 1, 1⟩
def nowD (L : List TokD) (s : Rd) : TokD := L.getD s.at_ endT
def failD (s : Rd) (er : Int) (t : TokD) : Rd := if s.e = 0 then ⟨s.at_, er, t.line, t.col⟩ else s
def mis (t : TokD) (kind : Int) (k : List UInt8) : Bool := (t.kind != kind) || ((kind == 2) && (t.text != k))
def takeD (L : List TokD) (s : Rd) (kind : Int) (k : List UInt8) : Rd × TokD :=
  if s.e ≠ 0 then (s, zeroT) else if mis (nowD L s) kind k = true then (failD s 7 (nowD L s), zeroT) else (⟨s.at_ + 1, s.e, s.ln, s.cl⟩, nowD L s)
def nameD (L : List TokD) (s : Rd) : Rd × List UInt8 := ((takeD L s 1 []).1, (takeD L s 1 []).2.text)
def numD (L : List TokD) (s : Rd) : Rd × Int := ((takeD L s 3 []).1, (takeD L s 3 []).2.num)
def keyD (L : List TokD) (s : Rd) (k : List UInt8) : Rd := (takeD L s 2 k).1
def isD (L : List TokD) (s : Rd) (k : List UInt8) : Bool := ((nowD L s).kind == 2) && ((nowD L s).text == k)
def afterD (L : List TokD) (s : Rd) (k : List UInt8) : Rd × Int := numD L (keyD L s k)
theorem takeD_le {L : List TokD} {s : Rd} {kind : Int} {k : List UInt8} (h : s.at_ ≤ L.length) : (takeD L s kind k).1.at_ ≤ L.length + 1 ∧ (kind ≠ 4 → (takeD L s kind k).1.at_ ≤ L.length) := by
  unfold takeD
  split
  · exact ⟨by show s.at_ ≤ _; omega, fun _ => h⟩
  · split
    · unfold failD
      split
      · exact ⟨by show s.at_ ≤ _; omega, fun _ => h⟩
      · exact ⟨by show s.at_ ≤ _; omega, fun _ => h⟩
    · rename_i hm
      refine ⟨by show s.at_ + 1 ≤ _; omega, fun hk => ?_⟩
      show s.at_ + 1 ≤ L.length
      by_cases he : s.at_ = L.length
      · have hn : nowD L s = endT := by unfold nowD; rw [List.getD_eq_getElem?_getD, List.getElem?_eq_none (by omega)]; rfl
        rw [hn] at hm
        exact absurd (show mis endT kind k = true by
          have : ((4 : Int) == kind) = false := beq_eq_false_iff_ne.2 (Ne.symm hk)
          simp [mis, endT, this, bne]) hm
      · omega
theorem nameD_le {L : List TokD} {s : Rd} (h : s.at_ ≤ L.length) : (nameD L s).1.at_ ≤ L.length := (takeD_le h).2 (by decide)
theorem numD_le {L : List TokD} {s : Rd} (h : s.at_ ≤ L.length) : (numD L s).1.at_ ≤ L.length := (takeD_le h).2 (by decide)
theorem keyD_le {L : List TokD} {s : Rd} {k : List UInt8} (h : s.at_ ≤ L.length) : (keyD L s k).at_ ≤ L.length := (takeD_le h).2 (by decide)
theorem afterD_le {L : List TokD} {s : Rd} {k : List UInt8} (h : s.at_ ≤ L.length) : (afterD L s k).1.at_ ≤ L.length := numD_le (keyD_le h)
/-- The seven cells of the sheet that is read. -/
structure XV where
  h : Int
  vs : Value
  vp : Value
  vd : Value
  vr : Value
  vt : Value
  vh : Value
/-- Nothing is turned but the block b, and what is new. -/
structure Keep (b : Nat) (w w' : World) : Prop where
  below : Below b w w'
  block : ∀ k, k < w.heap.size → k ≠ b → w'.heap[k]? = w.heap[k]?
theorem Keep.refl (b : Nat) (w : World) : Keep b w w := ⟨Below.refl _ _, fun _ _ _ => rfl⟩
theorem Keep.size {b : Nat} {w w' : World} (h : Keep b w w') : w.heap.size ≤ w'.heap.size := h.below.size
theorem Keep.trans {b : Nat} {w w1 w2 : World} (h : Keep b w w1) (k : Keep b w1 w2) : Keep b w w2 :=
  ⟨h.below.trans k.below, fun i hi hb => (k.block i (Nat.lt_of_lt_of_le hi h.size) hb).trans (h.block i hi hb)⟩
theorem Keep.of {b : Nat} {w w' : World} (h : Below w.heap.size w w') (hb : b ≤ w.heap.size) : Keep b w w' :=
  ⟨h.mono hb, fun k hk _ => h.block k hk⟩
theorem Keep.alloc {b : Nat} {w w1 : World} (h : Keep b w w1) (hb : b ≤ w.heap.size) (o : Obj) : Keep b w (w1.alloc o) :=
  h.trans (Keep.of ((Below.refl _ _).alloc (Nat.le_refl _) o) (Nat.le_trans hb h.size))
theorem Keep.set {b : Nat} {w w1 : World} (h : Keep b w w1) (i : Nat) (v : Value) : Keep b w (w1.setCell ⟨b, i, none⟩ v) :=
  h.trans ⟨(Below.refl _ _).setCell (p := ⟨b, i, none⟩) (Nat.le_refl _) v, fun k _ hk => heap_setCell_other w1 ⟨b, i, none⟩ k v hk⟩
theorem Keep.row {b : Nat} {w w1 : World} (h : Keep b w w1) (cs : Array Value) : Keep b w (w1.setRow b cs) :=
  h.trans ⟨below_setRow (Below.refl _ _) (Nat.le_refl _) cs, fun k _ hk => setRow_other w1 b k cs hk⟩
theorem Keep.newRow {b : Nat} {w w1 : World} (h : Keep b w w1) {g : Nat} (hg : w.heap.size ≤ g) (hb : b ≤ w.heap.size) (cs : Array Value) : Keep b w (w1.setRow g cs) :=
  ⟨below_setRow h.below (Nat.le_trans hb hg) cs, fun k hk hkb => (setRow_other w1 g k cs (by omega)).trans (h.block k hk hkb)⟩
theorem Keep.newSet {b : Nat} {w w1 : World} (h : Keep b w w1) {g : Nat} (hg : w.heap.size ≤ g) (hb : b ≤ w.heap.size) (i : Nat) (u : Value) : Keep b w (w1.setCell ⟨g, i, none⟩ u) :=
  ⟨h.below.setCell (p := ⟨g, i, none⟩) (Nat.le_trans hb hg) u, fun k hk hkb => (heap_setCell_other w1 ⟨g, i, none⟩ k u (by show k ≠ g; omega)).trans (h.block k hk hkb)⟩
theorem Keep.drewN {b : Nat} {w w1 : World} (h : Keep b w w1) (n : Nat) : Keep b w (w1.drewN n) := ⟨below_drewN h.below n, h.block⟩
/-- The tokens' slice lies below the reader. -/
theorem sl_keep {b : Nat} {v : Value} {L : List TokD} {w w' : World} (h : Sl tkc 5 w v L (fun k => k < b)) (k : Keep b w w') : Sl tkc 5 w' v L (fun k => k < b) :=
  h.keep k.size fun i _ hi => k.below.block i hi
end Go.Proofs.YteonefgbdphmiaaGreatDoor
/- The walks of the reader's now, fail and take. -/
namespace Go.Proofs.YteonefgbdphmiaaGreatDoor
open Go.RowKit
theorem tok_all (t : TokD) : (#[.int .i64 t.kind, .string (ba t.text), .int .i64 t.num, .int .i64 t.line, .int .i64 t.col] : Array Value).all (·.oneCell') = true := by
  simp [Value.oneCell']
end Go.Proofs.YteonefgbdphmiaaGreatDoor
/- The walks of the reader's name, num, key, is, good, after, times. -/
namespace Go.Proofs.YteonefgbdphmiaaGreatDoor
open Go.RowKit
theorem fd0 (t : TokD) (W : World) : (Instr.field 101 (.agg #[.int .i64 t.kind, .string (ba t.text), .int .i64 t.num, .int .i64 t.line, .int .i64 t.col]) 0).run Tryz.prog W = .ok (.int .i64 t.kind) W := by kernel_rfl
theorem fd1 (t : TokD) (W : World) : (Instr.field 101 (.agg #[.int .i64 t.kind, .string (ba t.text), .int .i64 t.num, .int .i64 t.line, .int .i64 t.col]) 1).run Tryz.prog W = .ok (.string (ba t.text)) W := by kernel_rfl
theorem fd2 (t : TokD) (W : World) : (Instr.field 101 (.agg #[.int .i64 t.kind, .string (ba t.text), .int .i64 t.num, .int .i64 t.line, .int .i64 t.col]) 2).run Tryz.prog W = .ok (.int .i64 t.num) W := by kernel_rfl
def timesRD (L : List TokD) (s : Rd) (k : List UInt8) : Rd × TimesD :=
  ((afterD L (afterD L (afterD L s kFrom).1 kEvery).1 k).1, ⟨(afterD L s kFrom).2, (afterD L (afterD L s kFrom).1 kEvery).2, (afterD L (afterD L (afterD L s kFrom).1 kEvery).1 k).2⟩)
theorem three_allQ (a b c : Int) : (#[Value.int .i64 a, .int .i64 b, .int .i64 c] : Array Value).all (·.oneCell') = true := by simp [Value.oneCell']
end Go.Proofs.YteonefgbdphmiaaGreatDoor
/- The walk of the reader's route. Printed by wip/bin/genqd.py. -/
namespace Go.Proofs.YteonefgbdphmiaaGreatDoor
open Go.RowKit
/-- The loop of a route's stops. -/
def midR (L : List TokD) (s : Rd) (n : Nat) : Rd := if n = 32 ∧ s.e = 0 ∧ (nowD L s).kind = 1 then failD s 3 (nowD L s) else s
def stayR (L : List TokD) (s : Rd) : Rd × Int := if isD L s kStay = true then afterD L s kStay else (s, 0)
def routeRun (L : List TokD) : Nat → Rd → Nms → List Int → List Int → Rd × RouteD × Unit
  | 0, s, ss, rs, ys => (s, ⟨[], ss, rs, ys⟩, ())
  | n + 1, s, ss, rs, ys =>
    if s.e ≠ 0 then (s, ⟨[], ss, rs, ys⟩, ())
    else
      let m := nameD L (midR L (numD L s).1 ss.length)
      if m.1.e ≠ 0 ∨ (nowD L m.1).kind = 4 then (m.1, ⟨[], ss ++ [m.2], rs ++ [(numD L s).2], ys⟩, ())
      else routeRun L n (stayR L m.1).1 (ss ++ [m.2]) (rs ++ [(numD L s).2]) (ys ++ [(stayR L m.1).2])
def routeRD (L : List TokD) (s : Rd) : Rd × RouteD :=
  let r := routeRun L (L.length + 1) (nameD L (nameD L s).1).1 [(nameD L (nameD L s).1).2] [] []
  (r.1, { r.2.1 with name := (nameD L s).2 })
theorem midR_le {L : List TokD} {s : Rd} {n : Nat} (h : s.at_ ≤ L.length) : (midR L s n).at_ ≤ L.length := by
  unfold midR
  split
  · unfold failD; split <;> exact h
  · exact h
theorem failD_e {s : Rd} {er : Int} {t : TokD} (h : s.e ≠ 0) : (failD s er t).e ≠ 0 := by unfold failD; rw [if_neg h]; exact h
theorem takeD_ok {L : List TokD} {s : Rd} {kind : Int} {k : List UInt8} (h : (takeD L s kind k).1.e = 0) : s.e = 0 ∧ (takeD L s kind k).1.at_ = s.at_ + 1 := by
  unfold takeD at h ⊢
  by_cases he : s.e ≠ 0
  · rw [if_pos he] at h; exact absurd h he
  · rw [if_neg he] at h ⊢
    have he0 : s.e = 0 := by simpa using he
    by_cases hm : mis (nowD L s) kind k = true
    · rw [if_pos hm] at h
      unfold failD at h
      rw [if_pos he0] at h
      exact absurd h (by show (7 : Int) ≠ 0; decide)
    · rw [if_neg hm]; exact ⟨he0, rfl⟩
theorem midR_ok {L : List TokD} {s : Rd} {n : Nat} (h : (midR L s n).e = 0) : midR L s n = s := by
  unfold midR at h ⊢
  split
  · rename_i hc
    rw [if_pos hc] at h
    unfold failD at h
    rw [if_pos hc.2.1] at h
    exact absurd h (by show (3 : Int) ≠ 0; decide)
  · rfl
theorem stayR_le {L : List TokD} {s : Rd} (h : s.at_ ≤ L.length) : (stayR L s).1.at_ ≤ L.length := by
  unfold stayR
  split
  · exact afterD_le h
  · exact h
theorem stayR_at {L : List TokD} {s : Rd} (h : (stayR L s).1.e = 0) : s.at_ ≤ (stayR L s).1.at_ := by
  unfold stayR at h ⊢
  split
  · rename_i hc
    rw [if_pos hc] at h
    have h1 := takeD_ok (show (takeD L (keyD L s kStay) 3 []).1.e = 0 from h)
    have h2 := takeD_ok (show (takeD L s 2 kStay).1.e = 0 from h1.1)
    have h3 : (afterD L s kStay).1.at_ = (keyD L s kStay).at_ + 1 := h1.2
    have h4 : (keyD L s kStay).at_ = s.at_ + 1 := h2.2
    omega
  · exact Nat.le_refl _
theorem round_at {L : List TokD} {s : Rd} {n : Nat} (h : (stayR L (nameD L (midR L (numD L s).1 n)).1).1.e = 0) (hm : (nameD L (midR L (numD L s).1 n)).1.e = 0) : s.at_ + 2 ≤ (stayR L (nameD L (midR L (numD L s).1 n)).1).1.at_ := by
  have h1 := stayR_at h
  have h2 := takeD_ok (show (takeD L (midR L (numD L s).1 n) 1 []).1.e = 0 from hm)
  have h3 := midR_ok h2.1
  have h4 := takeD_ok (show (takeD L s 3 []).1.e = 0 by have := h2.1; rw [h3] at this; exact this)
  have h5 : (nameD L (midR L (numD L s).1 n)).1.at_ = (midR L (numD L s).1 n).at_ + 1 := h2.2
  rw [h3] at h5 h1
  have h6 : (numD L s).1.at_ = s.at_ + 1 := h4.2
  rw [h3]
  omega
theorem routeRun_bad {L : List TokD} {n : Nat} {s : Rd} {ss : Nms} {rs ys : List Int} (h : s.e ≠ 0) : routeRun L n s ss rs ys = (s, ⟨[], ss, rs, ys⟩, ()) := by
  cases n with
  | zero => rfl
  | succ n => unfold routeRun; rw [if_pos h]
theorem routeRun_ret {L : List TokD} {n : Nat} {s : Rd} {ss : Nms} {rs ys : List Int} (h : s.e = 0) (hm : (nameD L (midR L (numD L s).1 ss.length)).1.e ≠ 0 ∨ (nowD L (nameD L (midR L (numD L s).1 ss.length)).1).kind = 4) :
    routeRun L (n + 1) s ss rs ys = ((nameD L (midR L (numD L s).1 ss.length)).1, ⟨[], ss ++ [(nameD L (midR L (numD L s).1 ss.length)).2], rs ++ [(numD L s).2], ys⟩, ()) := by
  unfold routeRun
  rw [if_neg (by rw [h]; decide), if_pos hm]
theorem routeRun_go {L : List TokD} {n : Nat} {s : Rd} {ss : Nms} {rs ys : List Int} (h : s.e = 0) (hm : ¬ ((nameD L (midR L (numD L s).1 ss.length)).1.e ≠ 0 ∨ (nowD L (nameD L (midR L (numD L s).1 ss.length)).1).kind = 4)) :
    routeRun L (n + 1) s ss rs ys = routeRun L n (stayR L (nameD L (midR L (numD L s).1 ss.length)).1).1 (ss ++ [(nameD L (midR L (numD L s).1 ss.length)).2]) (rs ++ [(numD L s).2]) (ys ++ [(stayR L (nameD L (midR L (numD L s).1 ss.length)).1).2]) := by
  conv => lhs; unfold routeRun
  rw [if_neg (by rw [h]; decide), if_neg hm]
/-- A route that is being read: its rows, its block, the result's block. -/
structure Rt (B p q b : Nat) (nm : List UInt8) (vs vr vy : Value) (ss : Nms) (rs ys : List Int) (w : World) : Prop where
  s : Ow nc 1 w B 9 vs ss
  r : Ow ic 1 w B 2 vr rs
  y : Ow ic 1 w B 2 vy ys
  ry : ∀ k, vr.ownBlock = some k → vy.ownBlock ≠ some k
  res : w.heap[p]? = some (.cells #[.string ⟨#[]⟩, .slice none 0 0, .slice none 0 0, .slice none 0 0] 57 (0, 0))
  x : w.heap[q]? = some (.cells #[.string (ba nm), vs, vr, vy] 57 (0, 0))
  hb : b < B
  hp : B ≤ p
  hq : B ≤ q
  hpq : p ≠ q
section
variable {B p q b : Nat} {nm : List UInt8} {vs vr vy v' : Value} {ss ss' : Nms} {rs ys xs' : List Int} {w w' : World}
theorem Rt.lq (h : Rt B p q b nm vs vr vy ss rs ys w) : q < w.heap.size := (Array.getElem?_eq_some_iff.1 h.x).1
theorem Rt.lp (h : Rt B p q b nm vs vr vy ss rs ys w) : p < w.heap.size := (Array.getElem?_eq_some_iff.1 h.res).1
theorem Rt.lB (h : Rt B p q b nm vs vr vy ss rs ys w) : B ≤ w.heap.size := Nat.le_trans h.hp (Nat.le_of_lt h.lp)
theorem Rt.keep (h : Rt B p q b nm vs vr vy ss rs ys w) (k : Keep b w w') : Rt B p q b nm vs vr vy ss rs ys w' := by
  have hk : ∀ i, B ≤ i → i < w.heap.size → w'.heap[i]? = w.heap[i]? := fun i h1 h2 => k.block i h2 (by have := h.hb; omega)
  exact ⟨h.s.keepB hk, h.r.keepB hk, h.y.keepB hk, h.ry, (hk p h.hp h.lp).trans h.res, (hk q h.hq h.lq).trans h.x, h.hb, h.hp, h.hq, h.hpq⟩
theorem Rt.same (h : Rt B p q b nm vs vr vy ss rs ys w) (e : w'.heap = w.heap) : Rt B p q b nm vs vr vy ss rs ys w' :=
  ⟨h.s.keepB fun i _ _ => by rw [e], h.r.keepB fun i _ _ => by rw [e], h.y.keepB fun i _ _ => by rw [e], h.ry, by rw [e]; exact h.res, by rw [e]; exact h.x, h.hb, h.hp, h.hq, h.hpq⟩
theorem Rt.drewN (h : Rt B p q b nm vs vr vy ss rs ys w) (n : Nat) : Rt B p q b nm vs vr vy ss rs ys (w.drewN n) := ⟨h.s.drewN n, h.r.drewN n, h.y.drewN n, h.ry, h.res, h.x, h.hb, h.hp, h.hq, h.hpq⟩
theorem Rt.alloc (h : Rt B p q b nm vs vr vy ss rs ys w) (o : Obj) : Rt B p q b nm vs vr vy ss rs ys (w.alloc o) := h.keep (Keep.of ((Below.refl _ _).alloc (Nat.le_refl _) o) (by have := h.hb; have := h.lB; omega))
theorem Rt.putS (h : Rt B p q b nm vs vr vy ss rs ys w) (hown : Ow nc 1 w' B 9 v' ss') (hg : w.grownBy w' vs.ownBlock) : Rt B p q b nm v' vr vy ss' rs ys (w'.setCell ⟨q, 1, none⟩ v') := by
  have hxq := (hg.block q h.lq (Ne.symm (ow_ne h.s h.x (by decide)))).trans h.x
  have hxp := (hg.block p h.lp (Ne.symm (ow_ne h.s h.res (by decide)))).trans h.res
  have hr := h.r.kept hg (ow_apart h.r h.s (by decide))
  have hy := h.y.kept hg (ow_apart h.y h.s (by decide))
  exact ⟨hown.set (ow_ne hown hxq (by decide)), hr.set (ow_ne hr hxq (by decide)), hy.set (ow_ne hy hxq (by decide)), h.ry, (heap_setCell_other w' ⟨q, 1, none⟩ p v' h.hpq).trans hxp, heap_setCell_same w' q 1 _ _ v' hxq, h.hb, h.hp, h.hq, h.hpq⟩
theorem Rt.putR (h : Rt B p q b nm vs vr vy ss rs ys w) (hown : Ow ic 1 w' B 2 v' xs') (hg : w.grownBy w' vr.ownBlock) (hm : Moved w vr v') : Rt B p q b nm vs v' vy ss xs' ys (w'.setCell ⟨q, 2, none⟩ v') := by
  have hxq := (hg.block q h.lq (Ne.symm (ow_ne h.r h.x (by decide)))).trans h.x
  have hxp := (hg.block p h.lp (Ne.symm (ow_ne h.r h.res (by decide)))).trans h.res
  have hs := h.s.kept hg (ow_apart h.s h.r (by decide))
  have hyr : vy.ownBlock = none ∨ vy.ownBlock ≠ vr.ownBlock := by
    rcases hv : vy.ownBlock with _ | k
    · exact .inl rfl
    · exact .inr fun e => h.ry k e.symm hv
  have hy := h.y.kept hg hyr
  refine ⟨hs.set (ow_ne hs hxq (by decide)), hown.set (ow_ne hown hxq (by decide)), hy.set (ow_ne hy hxq (by decide)), fun k hk hk2 => ?_, (heap_setCell_other w' ⟨q, 2, none⟩ p v' h.hpq).trans hxp, heap_setCell_same w' q 2 _ _ v' hxq, h.hb, h.hp, h.hq, h.hpq⟩
  rcases hm with hm | ⟨g, hm, hge⟩
  · exact h.ry k (hm ▸ hk) hk2
  · rw [hm] at hk; injection hk with hk; have := (h.y.lt hk2).2; omega
theorem Rt.putY (h : Rt B p q b nm vs vr vy ss rs ys w) (hown : Ow ic 1 w' B 2 v' xs') (hg : w.grownBy w' vy.ownBlock) (hm : Moved w vy v') : Rt B p q b nm vs vr v' ss rs xs' (w'.setCell ⟨q, 3, none⟩ v') := by
  have hxq := (hg.block q h.lq (Ne.symm (ow_ne h.y h.x (by decide)))).trans h.x
  have hxp := (hg.block p h.lp (Ne.symm (ow_ne h.y h.res (by decide)))).trans h.res
  have hs := h.s.kept hg (ow_apart h.s h.y (by decide))
  have hry : vr.ownBlock = none ∨ vr.ownBlock ≠ vy.ownBlock := by
    rcases hv : vr.ownBlock with _ | k
    · exact .inl rfl
    · exact .inr fun e => h.ry k hv e.symm
  have hr := h.r.kept hg hry
  refine ⟨hs.set (ow_ne hs hxq (by decide)), hr.set (ow_ne hr hxq (by decide)), hown.set (ow_ne hown hxq (by decide)), fun k hk hk2 => ?_, (heap_setCell_other w' ⟨q, 3, none⟩ p v' h.hpq).trans hxp, heap_setCell_same w' q 3 _ _ v' hxq, h.hb, h.hp, h.hq, h.hpq⟩
  rcases hm with hm | ⟨g, hm, hge⟩
  · exact h.ry k hk (hm ▸ hk2)
  · rw [hm] at hk2; injection hk2 with hk2; have := (h.r.lt hk).2; omega
theorem Rt.good (h : Rt B p q b nm vs vr vy ss rs ys w) (cs : Array Value) : (⟨nm, vs, vr, vy, ss, rs, ys⟩ : RouteM).Good (w.setRow p cs) (fun k => B ≤ k) := by
  have hs : ∀ k, k ≠ p → (w.setRow p cs).heap[k]? = w.heap[k]? := fun k hk => setRow_other w p k cs hk
  have hz : w.heap.size ≤ (w.setRow p cs).heap.size := by simp [World.setRow]
  refine ⟨?_, ?_, ?_⟩
  · exact ((h.s.sl nc_len).keep hz fun k _ hk => hs k (fun e => ow_ne h.s h.res (by decide) (e ▸ hk.1))).mono fun k hk => hk.2
  · exact ((h.r.sl ic_len).keep hz fun k _ hk => hs k (fun e => ow_ne h.r h.res (by decide) (e ▸ hk.1))).mono fun k hk => hk.2
  · exact ((h.y.sl ic_len).keep hz fun k _ hk => hs k (fun e => ow_ne h.y h.res (by decide) (e ▸ hk.1))).mono fun k hk => hk.2
/-- The row grown, and the cell stored: below the route's blocks nothing is turned. -/
theorem Rt.kp (h : Rt B p q b nm vs vr vy ss rs ys w) {W : World} (hW : Keep b W w) (hWB : W.heap.size ≤ B) {row : Option Nat} (hg : w.grownBy w' row) (hr : ∀ k, row = some k → B ≤ k) : Keep b W w' :=
  ⟨hW.below.grown hg (by have := h.lB; have := h.hb; omega) (fun k hk => by have := hr k hk; have := h.hb; omega), fun k hk hkb => (hg.block k (Nat.lt_of_lt_of_le hk hW.size) (fun e => by have := hr k e.symm; omega)).trans (hW.block k hk hkb)⟩
end
end Go.Proofs.YteonefgbdphmiaaGreatDoor
/- The walk of the reader's route. Printed by wip/bin/genqe.py. -/
namespace Go.Proofs.YteonefgbdphmiaaGreatDoor
open Go.RowKit
theorem four_all (a : List UInt8) (A1 : Option Addr) (n1 c1 : Nat) (A2 : Option Addr) (n2 c2 : Nat) (A3 : Option Addr) (n3 c3 : Nat) : (#[Value.string (ba a), .slice A1 n1 c1, .slice A2 n2 c2, .slice A3 n3 c3] : Array Value).all (·.oneCell') = true := by simp [Value.oneCell']
theorem ow_slice {α : Type} {c : α → List Value} {size base : Nat} {t : TypeId} {v : Value} {l : List α} {w : World} (hc : ∀ a, (c a).length = size) (h : Ow c size w base t v l) : ∃ A cap, v = .slice A l.length cap := by
  obtain ⟨A, cap, e, _, _⟩ := (h.sl hc).shape
  exact ⟨A, cap, e⟩
end Go.Proofs.YteonefgbdphmiaaGreatDoor
/- A sheet that is being read: its rows side by side; plain words of the reader's thing and full. Printed by wip/bin/genqf.py. -/
namespace Go.Proofs.YteonefgbdphmiaaGreatDoor
open Go.RowKit
def oneV (v : Value) : Value := if v.oneCell' = true then v else .nilIface
theorem oneV_one (v : Value) : (oneV v).oneCell' = true := by
  unfold oneV
  split
  · assumption
  · rfl
/-- A route's cells, each one cell for certain. -/
def rcN (r : RouteM) : List Value := [.string (ba r.name), oneV r.vs, oneV r.vr, oneV r.vy]
theorem rcN_len : ∀ x, (rcN x).length = 4 := fun _ => rfl
theorem rcN_one : ∀ x, ∀ u ∈ rcN x, u.oneCell' = true := by
  intro x u hu
  simp only [rcN, List.mem_cons, List.not_mem_nil, or_false] at hu
  rcases hu with rfl | rfl | rfl | rfl
  · rfl
  · exact oneV_one _
  · exact oneV_one _
  · exact oneV_one _
theorem oneV_sl {α : Type} {c : α → List Value} {size : Nat} {w : World} {v : Value} {l : List α} {P : Nat → Prop} (h : Sl c size w v l P) : oneV v = v := by
  obtain ⟨A1, z1, rfl, _, _⟩ := h.shape
  rfl
theorem rcN_eq {r : RouteM} {w : World} {P : Nat → Prop} (h : r.Good w P) : rcN r = rc r := by
  unfold rcN rc
  rw [oneV_sl h.stops, oneV_sl h.rides, oneV_sl h.stays]
theorem Sl.congr {α : Type} {c c' : α → List Value} {size : Nat} {w : World} {v : Value} {l : List α} {P : Nat → Prop} (h : Sl c size w v l P) (hc : ∀ x ∈ l, c x = c' x) : Sl c' size w v l P := by
  obtain ⟨A, cap, e, h1, h2, h3⟩ := h
  refine ⟨A, cap, e, h1, h2, fun hn => ?_⟩
  obtain ⟨b, off, ea, hb, hP, hcc⟩ := h3 hn
  exact ⟨b, off, ea, hb, hP, fun i x hx j u hu => hcc i x hx j u (by rw [hc x (List.mem_of_getElem? hx)]; exact hu)⟩
def SheetM.xv (x : SheetM) : XV := ⟨x.hor, x.vs, x.vp, x.vd, x.vr, x.vt, x.vh⟩
def apartP (x : SheetM) (B k : Nat) : Prop := B ≤ k ∧ some k ≠ x.vs.ownBlock ∧ some k ≠ x.vp.ownBlock ∧ some k ≠ x.vd.ownBlock ∧ some k ≠ x.vr.ownBlock ∧ some k ≠ x.vt.ownBlock ∧ some k ≠ x.vh.ownBlock
theorem Sl.movedP {α : Type} {c : α → List Value} {size : Nat} {w w1 : World} {s : Value} {l : List α} {P P' : Nat → Prop} {row : Option Nat} (h : Sl c size w s l P) (hg : w.grownBy w1 row) (hne : ∀ k, P k → some k ≠ row) (hP : ∀ k, k < w.heap.size → P k → P' k) : Sl c size w1 s l P' := by
  obtain ⟨A, cap, e, h1, h2, h3⟩ := h
  refine ⟨A, cap, e, h1, h2, fun hn => ?_⟩
  obtain ⟨b, off, ea, hb, hp, hc⟩ := h3 hn
  exact ⟨b, off, ea, Nat.lt_of_lt_of_le hb hg.size, hP b hb hp, fun i x hx j u hu => (World.cell?_of_block (a := ⟨b, _, none⟩) (hg.block b hb (hne b hp))).trans (hc i x hx j u hu)⟩
theorem RouteM.Good.movedP {r : RouteM} {w w1 : World} {P P' : Nat → Prop} {row : Option Nat} (h : r.Good w P) (hg : w.grownBy w1 row) (hne : ∀ k, P k → some k ≠ row) (hP : ∀ k, k < w.heap.size → P k → P' k) : r.Good w1 P' :=
  ⟨h.stops.movedP hg hne hP, h.rides.movedP hg hne hP, h.stays.movedP hg hne hP⟩
theorem RouteM.Good.setQ {r : RouteM} {w : World} {P : Nat → Prop} (h : r.Good w P) {q i : Nat} {u : Value} (hne : ∀ k, P k → k ≠ q) : r.Good (w.setCell ⟨q, i, none⟩ u) P :=
  h.keep (by simp [World.setCell]) fun k _ hP => heap_setCell_other w ⟨q, i, none⟩ k u (hne k hP)
theorem moved_ne {w : World} {v v' : Value} (hm : Moved w v v') {k : Nat} (hk : k < w.heap.size) (h : some k ≠ v.ownBlock) : some k ≠ v'.ownBlock := by
  rcases hm with hm | ⟨g, hm, hge⟩
  · rw [hm]; exact h
  · rw [hm]; intro e; injection e with e; omega
/-- The rows of the sheet that is read, all of one's own. -/
structure ShAt (B b : Nat) (x : SheetM) (w : World) : Prop where
  s : Ow nc 1 w B 9 x.vs x.stops
  p : Ow pc 4 w B 61 x.vp x.paths
  d : Ow dc 7 w B 50 x.vd x.doors
  r : Ow rcN 4 w B 57 x.vr x.routes
  t : Ow trc 5 w B 52 x.vt x.trips
  h : Ow hc 5 w B 54 x.vh x.hazs
  each : ∀ r ∈ x.routes, r.Good w (apartP x B)
  hb : b < B
  hB : B ≤ w.heap.size
section
variable {B b : Nat} {x : SheetM} {w w' : World}
theorem ShAt.keepB (h : ShAt B b x w) (hs : w.heap.size ≤ w'.heap.size) (hk : ∀ k, B ≤ k → k < w.heap.size → w'.heap[k]? = w.heap[k]?) : ShAt B b x w' :=
  ⟨h.s.keepB hk, h.p.keepB hk, h.d.keepB hk, h.r.keepB hk, h.t.keepB hk, h.h.keepB hk, fun r hr => (h.each r hr).keep hs fun k hk1 hP => hk k hP.1 hk1, h.hb, Nat.le_trans h.hB hs⟩
theorem ShAt.keep (h : ShAt B b x w) (k : Keep b w w') : ShAt B b x w' := h.keepB k.size fun i h1 h2 => k.block i h2 (by have := h.hb; omega)
theorem ShAt.drewN (h : ShAt B b x w) (n : Nat) : ShAt B b x (w.drewN n) := h.keepB (Nat.le_refl _) fun _ _ _ => rfl
theorem ShAt.alloc (h : ShAt B b x w) (o : Obj) : ShAt B b x (w.alloc o) := h.keep (Keep.of ((Below.refl _ _).alloc (Nat.le_refl _) o) (by have := h.hb; have := h.hB; omega))
theorem ShAt.same (h : ShAt B b x w) (e : w'.heap = w.heap) : ShAt B b x w' := h.keepB (by rw [e]; exact Nat.le_refl _) fun _ _ _ => by rw [e]
theorem ShAt.put_s (h : ShAt B b x w) {v' : Value} {l' : Nms} (hown : Ow nc 1 w' B 9 v' l') (hg : w.grownBy w' x.vs.ownBlock) (hm : Moved w x.vs v') : ShAt B b { x with vs := v', stops := l' } (w'.setCell ⟨b, 6, none⟩ v') :=
  ⟨hown.set (fun e => by have := (hown.lt e).1; have := h.hb; omega), (h.p.kept hg (ow_apart h.p h.s (by decide))).set (fun e => by have := (h.p.lt e).1; have := h.hb; omega), (h.d.kept hg (ow_apart h.d h.s (by decide))).set (fun e => by have := (h.d.lt e).1; have := h.hb; omega), (h.r.kept hg (ow_apart h.r h.s (by decide))).set (fun e => by have := (h.r.lt e).1; have := h.hb; omega), (h.t.kept hg (ow_apart h.t h.s (by decide))).set (fun e => by have := (h.t.lt e).1; have := h.hb; omega), (h.h.kept hg (ow_apart h.h h.s (by decide))).set (fun e => by have := (h.h.lt e).1; have := h.hb; omega), fun r hr => ((h.each r hr).movedP hg (fun k hk => hk.2.1) (fun k hk hP => ⟨hP.1, moved_ne hm hk hP.2.1, hP.2.2.1, hP.2.2.2.1, hP.2.2.2.2.1, hP.2.2.2.2.2.1, hP.2.2.2.2.2.2⟩)).setQ (fun k hP => by have := hP.1; have := h.hb; omega), h.hb, by have := hg.size; have := h.hB; simp only [World.setCell, Array.size_modify]; omega⟩
theorem ShAt.put_p (h : ShAt B b x w) {v' : Value} {l' : List PathD} (hown : Ow pc 4 w' B 61 v' l') (hg : w.grownBy w' x.vp.ownBlock) (hm : Moved w x.vp v') : ShAt B b { x with vp := v', paths := l' } (w'.setCell ⟨b, 7, none⟩ v') :=
  ⟨(h.s.kept hg (ow_apart h.s h.p (by decide))).set (fun e => by have := (h.s.lt e).1; have := h.hb; omega), hown.set (fun e => by have := (hown.lt e).1; have := h.hb; omega), (h.d.kept hg (ow_apart h.d h.p (by decide))).set (fun e => by have := (h.d.lt e).1; have := h.hb; omega), (h.r.kept hg (ow_apart h.r h.p (by decide))).set (fun e => by have := (h.r.lt e).1; have := h.hb; omega), (h.t.kept hg (ow_apart h.t h.p (by decide))).set (fun e => by have := (h.t.lt e).1; have := h.hb; omega), (h.h.kept hg (ow_apart h.h h.p (by decide))).set (fun e => by have := (h.h.lt e).1; have := h.hb; omega), fun r hr => ((h.each r hr).movedP hg (fun k hk => hk.2.2.1) (fun k hk hP => ⟨hP.1, hP.2.1, moved_ne hm hk hP.2.2.1, hP.2.2.2.1, hP.2.2.2.2.1, hP.2.2.2.2.2.1, hP.2.2.2.2.2.2⟩)).setQ (fun k hP => by have := hP.1; have := h.hb; omega), h.hb, by have := hg.size; have := h.hB; simp only [World.setCell, Array.size_modify]; omega⟩
theorem ShAt.put_d (h : ShAt B b x w) {v' : Value} {l' : List DoorD} (hown : Ow dc 7 w' B 50 v' l') (hg : w.grownBy w' x.vd.ownBlock) (hm : Moved w x.vd v') : ShAt B b { x with vd := v', doors := l' } (w'.setCell ⟨b, 8, none⟩ v') :=
  ⟨(h.s.kept hg (ow_apart h.s h.d (by decide))).set (fun e => by have := (h.s.lt e).1; have := h.hb; omega), (h.p.kept hg (ow_apart h.p h.d (by decide))).set (fun e => by have := (h.p.lt e).1; have := h.hb; omega), hown.set (fun e => by have := (hown.lt e).1; have := h.hb; omega), (h.r.kept hg (ow_apart h.r h.d (by decide))).set (fun e => by have := (h.r.lt e).1; have := h.hb; omega), (h.t.kept hg (ow_apart h.t h.d (by decide))).set (fun e => by have := (h.t.lt e).1; have := h.hb; omega), (h.h.kept hg (ow_apart h.h h.d (by decide))).set (fun e => by have := (h.h.lt e).1; have := h.hb; omega), fun r hr => ((h.each r hr).movedP hg (fun k hk => hk.2.2.2.1) (fun k hk hP => ⟨hP.1, hP.2.1, hP.2.2.1, moved_ne hm hk hP.2.2.2.1, hP.2.2.2.2.1, hP.2.2.2.2.2.1, hP.2.2.2.2.2.2⟩)).setQ (fun k hP => by have := hP.1; have := h.hb; omega), h.hb, by have := hg.size; have := h.hB; simp only [World.setCell, Array.size_modify]; omega⟩
theorem ShAt.put_r (h : ShAt B b x w) {v' : Value} {r0 : RouteM} (hown : Ow rcN 4 w' B 57 v' (x.routes ++ [r0])) (hg : w.grownBy w' x.vr.ownBlock) (hm : Moved w x.vr v') (h0 : r0.Good w (apartP x B)) : ShAt B b { x with vr := v', routes := x.routes ++ [r0] } (w'.setCell ⟨b, 9, none⟩ v') := by
  have key : ∀ r : RouteM, r.Good w (apartP x B) → r.Good (w'.setCell ⟨b, 9, none⟩ v') (apartP { x with vr := v', routes := x.routes ++ [r0] } B) := fun r hr => (hr.movedP hg (fun k hk => hk.2.2.2.2.1) (fun k hk hP => ⟨hP.1, hP.2.1, hP.2.2.1, hP.2.2.2.1, moved_ne hm hk hP.2.2.2.2.1, hP.2.2.2.2.2.1, hP.2.2.2.2.2.2⟩)).setQ (fun k hP => by have := hP.1; have := h.hb; omega)
  refine ⟨(h.s.kept hg (ow_apart h.s h.r (by decide))).set (fun e => by have := (h.s.lt e).1; have := h.hb; omega), (h.p.kept hg (ow_apart h.p h.r (by decide))).set (fun e => by have := (h.p.lt e).1; have := h.hb; omega), (h.d.kept hg (ow_apart h.d h.r (by decide))).set (fun e => by have := (h.d.lt e).1; have := h.hb; omega), hown.set (fun e => by have := (hown.lt e).1; have := h.hb; omega), (h.t.kept hg (ow_apart h.t h.r (by decide))).set (fun e => by have := (h.t.lt e).1; have := h.hb; omega), (h.h.kept hg (ow_apart h.h h.r (by decide))).set (fun e => by have := (h.h.lt e).1; have := h.hb; omega), fun r hr => ?_, h.hb, ?_⟩
  · rcases List.mem_append.1 hr with hr | hr
    · exact key r (h.each r hr)
    · rw [List.mem_singleton.1 hr]; exact key r0 h0
  · have := hg.size; have := h.hB; simp only [World.setCell, Array.size_modify]; omega
theorem ShAt.put_t (h : ShAt B b x w) {v' : Value} {l' : List TripD} (hown : Ow trc 5 w' B 52 v' l') (hg : w.grownBy w' x.vt.ownBlock) (hm : Moved w x.vt v') : ShAt B b { x with vt := v', trips := l' } (w'.setCell ⟨b, 10, none⟩ v') :=
  ⟨(h.s.kept hg (ow_apart h.s h.t (by decide))).set (fun e => by have := (h.s.lt e).1; have := h.hb; omega), (h.p.kept hg (ow_apart h.p h.t (by decide))).set (fun e => by have := (h.p.lt e).1; have := h.hb; omega), (h.d.kept hg (ow_apart h.d h.t (by decide))).set (fun e => by have := (h.d.lt e).1; have := h.hb; omega), (h.r.kept hg (ow_apart h.r h.t (by decide))).set (fun e => by have := (h.r.lt e).1; have := h.hb; omega), hown.set (fun e => by have := (hown.lt e).1; have := h.hb; omega), (h.h.kept hg (ow_apart h.h h.t (by decide))).set (fun e => by have := (h.h.lt e).1; have := h.hb; omega), fun r hr => ((h.each r hr).movedP hg (fun k hk => hk.2.2.2.2.2.1) (fun k hk hP => ⟨hP.1, hP.2.1, hP.2.2.1, hP.2.2.2.1, hP.2.2.2.2.1, moved_ne hm hk hP.2.2.2.2.2.1, hP.2.2.2.2.2.2⟩)).setQ (fun k hP => by have := hP.1; have := h.hb; omega), h.hb, by have := hg.size; have := h.hB; simp only [World.setCell, Array.size_modify]; omega⟩
theorem ShAt.put_h (h : ShAt B b x w) {v' : Value} {l' : List HazD} (hown : Ow hc 5 w' B 54 v' l') (hg : w.grownBy w' x.vh.ownBlock) (hm : Moved w x.vh v') : ShAt B b { x with vh := v', hazs := l' } (w'.setCell ⟨b, 11, none⟩ v') :=
  ⟨(h.s.kept hg (ow_apart h.s h.h (by decide))).set (fun e => by have := (h.s.lt e).1; have := h.hb; omega), (h.p.kept hg (ow_apart h.p h.h (by decide))).set (fun e => by have := (h.p.lt e).1; have := h.hb; omega), (h.d.kept hg (ow_apart h.d h.h (by decide))).set (fun e => by have := (h.d.lt e).1; have := h.hb; omega), (h.r.kept hg (ow_apart h.r h.h (by decide))).set (fun e => by have := (h.r.lt e).1; have := h.hb; omega), (h.t.kept hg (ow_apart h.t h.h (by decide))).set (fun e => by have := (h.t.lt e).1; have := h.hb; omega), hown.set (fun e => by have := (hown.lt e).1; have := h.hb; omega), fun r hr => ((h.each r hr).movedP hg (fun k hk => hk.2.2.2.2.2.2) (fun k hk hP => ⟨hP.1, hP.2.1, hP.2.2.1, hP.2.2.2.1, hP.2.2.2.2.1, hP.2.2.2.2.2.1, moved_ne hm hk hP.2.2.2.2.2.2⟩)).setQ (fun k hP => by have := hP.1; have := h.hb; omega), h.hb, by have := hg.size; have := h.hB; simp only [World.setCell, Array.size_modify]; omega⟩
end

/-- What a line behind its word tells. -/
def pathRD (L : List TokD) (s : Rd) : Rd × PathD :=
  let a := nameD L s
  let b := nameD L a.1
  let c := nameD L b.1
  let n := numD L c.1
  (n.1, ⟨a.2, b.2, c.2, n.2⟩)
def doorRD (L : List TokD) (s : Rd) : Rd × DoorD :=
  let q := pathRD L s
  let t := timesRD L q.1 kOpen
  (t.1, ⟨q.2.name, q.2.a, q.2.b, q.2.len, t.2⟩)
def tripRD (L : List TokD) (s : Rd) : Rd × TripD :=
  let a := nameD L s
  let r := nameD L (keyD L a.1 kOf)
  let f := afterD L r.1 kFrom
  let e := afterD L f.1 kEvery
  let u := afterD L e.1 kUntil
  (u.1, ⟨a.2, r.2, f.2, e.2, u.2⟩)
def hazRD (L : List TokD) (s : Rd) : Rd × HazD :=
  let a := nameD L s
  let r := nameD L (keyD L a.1 kOn)
  let t := timesRD L r.1 kClosed
  (t.1, ⟨a.2, r.2, t.2⟩)
def thingD (L : List TokD) (s : Rd) (d : SheetD) (k : List UInt8) : Rd × SheetD :=
  if k = kStop then ((nameD L s).1, { d with stops := d.stops ++ [(nameD L s).2] })
  else if k = kPath then ((pathRD L s).1, { d with paths := d.paths ++ [(pathRD L s).2] })
  else if k = kDoor then ((doorRD L s).1, { d with doors := d.doors ++ [(doorRD L s).2] })
  else if k = kRoute then ((routeRD L s).1, { d with routes := d.routes ++ [(routeRD L s).2] })
  else if k = kTrip then ((tripRD L s).1, { d with trips := d.trips ++ [(tripRD L s).2] })
  else ((hazRD L s).1, { d with hazs := d.hazs ++ [(hazRD L s).2] })
def fullD (d : SheetD) (k : List UInt8) : Bool :=
  if k = kStop then decide (256 ≤ d.stops.length) else if k = kPath then decide (1024 ≤ d.paths.length) else if k = kDoor then decide (256 ≤ d.doors.length) else if k = kRoute then decide (256 ≤ d.routes.length) else if k = kTrip then decide (1024 ≤ d.trips.length) else if k = kHazard then decide (256 ≤ d.hazs.length) else false
def keysL : List (List UInt8) := [kStop, kPath, kDoor, kRoute, kTrip, kHazard]
end Go.Proofs.YteonefgbdphmiaaGreatDoor
/- The walks of the reader's full and thing. Printed by wip/bin/genqg.py. -/
namespace Go.Proofs.YteonefgbdphmiaaGreatDoor
open Go.RowKit
/-- How many things there may be. -/
structure SmallS (x : SheetM) : Prop where
  s : x.stops.length ≤ 1024
  p : x.paths.length ≤ 1024
  d : x.doors.length ≤ 1024
  r : x.routes.length ≤ 1024
  t : x.trips.length ≤ 1024
  h : x.hazs.length ≤ 1024
theorem ShAt.forms {B b : Nat} {x : SheetM} {w : World} (h : ShAt B b x w) : ∃ (As : Option Addr) (cs : Nat) (Ap : Option Addr) (cp : Nat) (Ad : Option Addr) (cd : Nat) (Ar : Option Addr) (cr : Nat) (At : Option Addr) (ct : Nat) (Ah : Option Addr) (ch : Nat),
    x.vs = .slice As x.stops.length cs ∧ x.vp = .slice Ap x.paths.length cp ∧ x.vd = .slice Ad x.doors.length cd ∧ x.vr = .slice Ar x.routes.length cr ∧ x.vt = .slice At x.trips.length ct ∧ x.vh = .slice Ah x.hazs.length ch := by
  obtain ⟨As, cs, es⟩ := ow_slice nc_len h.s
  obtain ⟨Ap, cp, ep⟩ := ow_slice pc_len h.p
  obtain ⟨Ad, cd, ed⟩ := ow_slice dc_len h.d
  obtain ⟨Ar, cr, er⟩ := ow_slice rcN_len h.r
  obtain ⟨At, ct, et⟩ := ow_slice trc_len h.t
  obtain ⟨Ah, ch, eh⟩ := ow_slice hc_len h.h
  exact ⟨As, cs, Ap, cp, Ad, cd, Ar, cr, At, ct, Ah, ch, es, ep, ed, er, et, eh⟩
theorem d_len (x : SheetM) : x.d.routes.length = x.routes.length := by show (x.routes.map RouteM.d).length = _; rw [List.length_map]
theorem info_pathQ : (Tryz.prog.info? 61).map (fun i => (i.zero, i.size, i.bytes)) = some (some (.agg #[.string ByteArray.empty, .string ByteArray.empty, .string ByteArray.empty, .int .i64 0]), 4, 56) := by kernel_rfl
theorem info_doorQ : (Tryz.prog.info? 50).map (fun i => (i.zero, i.size, i.bytes)) = some (some (.agg #[.string ByteArray.empty, .string ByteArray.empty, .string ByteArray.empty, .int .i64 0, .int .i64 0, .int .i64 0, .int .i64 0]), 7, 80) := by kernel_rfl
theorem info_routeQ : (Tryz.prog.info? 57).map (fun i => (i.zero, i.size, i.bytes)) = some (some (.agg #[.string ByteArray.empty, .slice none 0 0, .slice none 0 0, .slice none 0 0]), 4, 88) := by kernel_rfl
theorem info_tripQ : (Tryz.prog.info? 52).map (fun i => (i.zero, i.size, i.bytes)) = some (some (.agg #[.string ByteArray.empty, .string ByteArray.empty, .int .i64 0, .int .i64 0, .int .i64 0]), 5, 56) := by kernel_rfl
theorem info_hazQ : (Tryz.prog.info? 54).map (fun i => (i.zero, i.size, i.bytes)) = some (some (.agg #[.string ByteArray.empty, .string ByteArray.empty, .int .i64 0, .int .i64 0, .int .i64 0]), 5, 56) := by kernel_rfl
theorem ShAt.apart {B b : Nat} {x : SheetM} {w : World} (h : ShAt B b x w) {k : Nat} (hk : w.heap.size ≤ k) : apartP x B k :=
  ⟨Nat.le_trans h.hB hk, fun e => by have := (h.s.lt e.symm).2; omega, fun e => by have := (h.p.lt e.symm).2; omega, fun e => by have := (h.d.lt e.symm).2; omega, fun e => by have := (h.r.lt e.symm).2; omega, fun e => by have := (h.t.lt e.symm).2; omega, fun e => by have := (h.h.lt e.symm).2; omega⟩
end Go.Proofs.YteonefgbdphmiaaGreatDoor
/- The reader's line and timetableref05.Parse: plain words. -/
namespace Go.Proofs.YteonefgbdphmiaaGreatDoor
open Go.RowKit
def lineD (L : List TokD) (s : Rd) (d : SheetD) : Rd × SheetD :=
  if (nowD L s).kind = 2 ∧ (nowD L s).text ∈ keysL then
    if fullD d (nowD L s).text = true then (failD s 3 (nowD L s), d)
    else ((takeD L (thingD L ⟨s.at_ + 1, s.e, s.ln, s.cl⟩ d (nowD L s).text).1 4 []).1, (thingD L ⟨s.at_ + 1, s.e, s.ln, s.cl⟩ d (nowD L s).text).2)
  else (failD s 7 (nowD L s), d)
def parseRun (L : List TokD) : Nat → Rd → SheetD → Rd × SheetD
  | 0, s, d => (s, d)
  | n + 1, s, d => if s.e = 0 ∧ s.at_ < L.length then parseRun L n (lineD L s d).1 (lineD L s d).2 else (s, d)
def zeroD : SheetD := ⟨0, [], [], [], [], [], []⟩
def parseS (s : ByteArray) : SheetD × FaultD :=
  if (allD s).2.err ≠ 0 then (zeroD, (allD s).2)
  else
    let L := (allD s).1
    let n := numD L (keyD L ⟨0, 0, 0, 0⟩ kHorizon)
    let r := parseRun L (L.length + 1) (takeD L n.1 4 []).1 { zeroD with hor := n.2 }
    if r.1.e ≠ 0 then (zeroD, ⟨r.1.e, r.1.ln, r.1.cl⟩) else (r.2, ⟨0, 0, 0⟩)
theorem failD_at (s : Rd) (er : Int) (t : TokD) : (failD s er t).at_ = s.at_ := by unfold failD; split <;> rfl
theorem takeD_mono (L : List TokD) (s : Rd) (kind : Int) (k : List UInt8) : s.at_ ≤ (takeD L s kind k).1.at_ := by
  unfold takeD
  split
  · exact Nat.le_refl _
  · split
    · rw [failD_at]; exact Nat.le_refl _
    · exact Nat.le_succ _
theorem nameD_mono (L : List TokD) (s : Rd) : s.at_ ≤ (nameD L s).1.at_ := takeD_mono _ _ _ _
theorem numD_mono (L : List TokD) (s : Rd) : s.at_ ≤ (numD L s).1.at_ := takeD_mono _ _ _ _
theorem keyD_mono (L : List TokD) (s : Rd) (k : List UInt8) : s.at_ ≤ (keyD L s k).at_ := takeD_mono _ _ _ _
theorem afterD_mono (L : List TokD) (s : Rd) (k : List UInt8) : s.at_ ≤ (afterD L s k).1.at_ := Nat.le_trans (keyD_mono L s k) (numD_mono _ _)
theorem timesRD_mono (L : List TokD) (s : Rd) (k : List UInt8) : s.at_ ≤ (timesRD L s k).1.at_ :=
  Nat.le_trans (afterD_mono L s kFrom) (Nat.le_trans (afterD_mono _ _ _) (afterD_mono _ _ _))
theorem midR_at (L : List TokD) (s : Rd) (n : Nat) : (midR L s n).at_ = s.at_ := by unfold midR; split; exact failD_at _ _ _; rfl
theorem stayR_mono (L : List TokD) (s : Rd) : s.at_ ≤ (stayR L s).1.at_ := by unfold stayR; split; exact afterD_mono _ _ _; exact Nat.le_refl _
theorem routeRun_mono (L : List TokD) : ∀ (n : Nat) (s : Rd) (ss : Nms) (rs ys : List Int), s.at_ ≤ (routeRun L n s ss rs ys).1.at_ := by
  intro n
  induction n with
  | zero => intro s ss rs ys; exact Nat.le_refl _
  | succ n ih =>
    intro s ss rs ys
    have h1 := numD_mono L s
    have h2 := nameD_mono L (midR L (numD L s).1 ss.length)
    rw [midR_at] at h2
    by_cases he : s.e = 0
    · by_cases hm : (nameD L (midR L (numD L s).1 ss.length)).1.e ≠ 0 ∨ (nowD L (nameD L (midR L (numD L s).1 ss.length)).1).kind = 4
      · rw [routeRun_ret he hm]; exact Nat.le_trans h1 h2
      · rw [routeRun_go he hm]
        exact Nat.le_trans (Nat.le_trans h1 h2) (Nat.le_trans (stayR_mono _ _) (ih _ _ _ _))
    · rw [routeRun_bad he]; exact Nat.le_refl _
theorem routeRD_mono (L : List TokD) (s : Rd) : s.at_ ≤ (routeRD L s).1.at_ :=
  Nat.le_trans (nameD_mono L s) (Nat.le_trans (nameD_mono _ _) (routeRun_mono _ _ _ _ _ _))
theorem pathRD_mono (L : List TokD) (s : Rd) : s.at_ ≤ (pathRD L s).1.at_ :=
  Nat.le_trans (nameD_mono L s) (Nat.le_trans (nameD_mono _ _) (Nat.le_trans (nameD_mono _ _) (numD_mono _ _)))
theorem doorRD_mono (L : List TokD) (s : Rd) : s.at_ ≤ (doorRD L s).1.at_ := Nat.le_trans (pathRD_mono L s) (timesRD_mono _ _ _)
theorem tripRD_mono (L : List TokD) (s : Rd) : s.at_ ≤ (tripRD L s).1.at_ :=
  Nat.le_trans (nameD_mono L s) (Nat.le_trans (keyD_mono _ _ _) (Nat.le_trans (nameD_mono _ _) (Nat.le_trans (afterD_mono _ _ _) (Nat.le_trans (afterD_mono _ _ _) (afterD_mono _ _ _)))))
theorem hazRD_mono (L : List TokD) (s : Rd) : s.at_ ≤ (hazRD L s).1.at_ :=
  Nat.le_trans (nameD_mono L s) (Nat.le_trans (keyD_mono _ _ _) (Nat.le_trans (nameD_mono _ _) (timesRD_mono _ _ _)))
theorem thingD_mono (L : List TokD) (s : Rd) (d : SheetD) (k : List UInt8) : s.at_ ≤ (thingD L s d k).1.at_ := by
  unfold thingD
  split
  · exact nameD_mono _ _
  · split
    · exact pathRD_mono _ _
    · split
      · exact doorRD_mono _ _
      · split
        · exact routeRD_mono _ _
        · split
          · exact tripRD_mono _ _
          · exact hazRD_mono _ _
theorem failD_bad {s : Rd} {er : Int} {t : TokD} (h : s.e = 0) (he : er ≠ 0) : (failD s er t).e ≠ 0 := by unfold failD; rw [if_pos h]; exact he
theorem lineD_at {L : List TokD} {s : Rd} {d : SheetD} (h0 : s.e = 0) (h : (lineD L s d).1.e = 0) : s.at_ < (lineD L s d).1.at_ := by
  unfold lineD at h ⊢
  split
  · rename_i hk
    rw [if_pos hk] at h
    split
    · rename_i hf
      rw [if_pos hf] at h
      exact absurd h (failD_bad h0 (by decide))
    · exact Nat.lt_of_lt_of_le (Nat.lt_succ_self s.at_) (Nat.le_trans (thingD_mono L ⟨s.at_ + 1, s.e, s.ln, s.cl⟩ d _) (takeD_mono _ _ _ _))
  · rename_i hk
    rw [if_neg hk] at h
    exact absurd h (failD_bad h0 (by decide))
structure SmallD (x : SheetD) : Prop where
  s : x.stops.length ≤ 1024
  p : x.paths.length ≤ 1024
  d : x.doors.length ≤ 1024
  r : x.routes.length ≤ 1024
  t : x.trips.length ≤ 1024
  h : x.hazs.length ≤ 1024
theorem SmallD.s' {x : SheetM} (h : SmallD x.d) : SmallS x := ⟨h.s, h.p, h.d, by have := h.r; rw [d_len] at this; exact this, h.t, h.h⟩
theorem thingD_small {L : List TokD} {s : Rd} {d : SheetD} {k : List UInt8} (h : SmallD d) (hk : k ∈ keysL) (hf : fullD d k = false) : SmallD (thingD L s d k).2 := by
  obtain ⟨h1, h2, h3, h4, h5, h6⟩ := h
  unfold keysL at hk
  simp only [List.mem_cons, List.not_mem_nil, or_false] at hk
  rcases hk with rfl | rfl | rfl | rfl | rfl | rfl
  · have hf2 : decide (256 ≤ d.stops.length) = false := hf
    rw [decide_eq_false_iff_not] at hf2
    exact ⟨by show (d.stops ++ [_]).length ≤ _; rw [List.length_append, List.length_singleton]; omega, h2, h3, h4, h5, h6⟩
  · have hf2 : decide (1024 ≤ d.paths.length) = false := hf
    rw [decide_eq_false_iff_not] at hf2
    exact ⟨h1, by show (d.paths ++ [_]).length ≤ _; rw [List.length_append, List.length_singleton]; omega, h3, h4, h5, h6⟩
  · have hf2 : decide (256 ≤ d.doors.length) = false := hf
    rw [decide_eq_false_iff_not] at hf2
    exact ⟨h1, h2, by show (d.doors ++ [_]).length ≤ _; rw [List.length_append, List.length_singleton]; omega, h4, h5, h6⟩
  · have hf2 : decide (256 ≤ d.routes.length) = false := hf
    rw [decide_eq_false_iff_not] at hf2
    exact ⟨h1, h2, h3, by show (d.routes ++ [_]).length ≤ _; rw [List.length_append, List.length_singleton]; omega, h5, h6⟩
  · have hf2 : decide (1024 ≤ d.trips.length) = false := hf
    rw [decide_eq_false_iff_not] at hf2
    exact ⟨h1, h2, h3, h4, by show (d.trips ++ [_]).length ≤ _; rw [List.length_append, List.length_singleton]; omega, h6⟩
  · have hf2 : decide (256 ≤ d.hazs.length) = false := hf
    rw [decide_eq_false_iff_not] at hf2
    exact ⟨h1, h2, h3, h4, h5, by show (d.hazs ++ [_]).length ≤ _; rw [List.length_append, List.length_singleton]; omega⟩
theorem lineD_small {L : List TokD} {s : Rd} {d : SheetD} (h : SmallD d) : SmallD (lineD L s d).2 := by
  unfold lineD
  split
  · rename_i hk
    split
    · exact h
    · rename_i hf
      exact thingD_small h hk.2 (by simpa using hf)
  · exact h
def knownD (t : TokD) (i : Nat) : Bool := (t.kind == 2) && (keysL.take i).contains t.text
theorem knownD_zero (t : TokD) : knownD t 0 = false := by unfold knownD; simp
theorem knownD_succ (t : TokD) (i : Nat) (h : i < keysL.length) : knownD t (i + 1) = (knownD t i || ((t.kind == 2) && (t.text == keysL[i]))) := by
  unfold knownD
  rw [take_succ_eq keysL i h]
  generalize keysL.take i = A
  generalize keysL[i] = z
  rw [Bool.eq_iff_iff]
  simp
  constructor
  · rintro ⟨h1, h2 | h2⟩
    · exact .inl ⟨h1, h2⟩
    · exact .inr ⟨h1, h2⟩
  · rintro (⟨h1, h2⟩ | ⟨h1, h2⟩)
    · exact ⟨h1, .inl h2⟩
    · exact ⟨h1, .inr h2⟩
theorem knownD_six (t : TokD) : knownD t 6 = decide (t.kind = 2 ∧ t.text ∈ keysL) := by
  unfold knownD
  rw [show keysL.take 6 = keysL from rfl, Bool.eq_iff_iff]
  simp
end Go.Proofs.YteonefgbdphmiaaGreatDoor
/- The walk of the reader's line. -/
namespace Go.Proofs.YteonefgbdphmiaaGreatDoor
open Go.RowKit
theorem bool_or_of {a b : Bool} (h : a = true) : true = (a || b) := by rw [h]; rfl
end Go.Proofs.YteonefgbdphmiaaGreatDoor
/- The walk of timetableref05.Parse. Printed by wip/bin/genqj.py. -/
namespace Go.Proofs.YteonefgbdphmiaaGreatDoor
open Go.RowKit
theorem results_cc {P : Program} {fn : Func} {p q : Tmp} {ty ty2 : TypeId} (h : fn.results = #[.cell p ty, .cell q ty2]) (tmps : Array Value) (w : World) (g g2 : Nat) (t t2 : TypeId) (cs cs2 : Array Value) (fr fr2 : Nat × Nat) (d d2 : TypeDesc)
    (hp : tmps.getD p undef = .pointer (some ⟨g, 0, none⟩)) (hg : w.heap[g]? = some (.cells cs t fr)) (hu : P.underlying ty = some d) (hd : (match d with | .struct _ | .array _ _ => true | _ => false) = true) (hi : (P.info? ty).map (·.size) = some cs.size)
    (hp2 : tmps.getD q undef = .pointer (some ⟨g2, 0, none⟩)) (hg2 : w.heap[g2]? = some (.cells cs2 t2 fr2)) (hu2 : P.underlying ty2 = some d2) (hd2 : (match d2 with | .struct _ | .array _ _ => true | _ => false) = true) (hi2 : (P.info? ty2).map (·.size) = some cs2.size) :
    (results fn tmps).run P w = .ok (.tuple #[.agg cs, .agg cs2]) w := by
  have hp' : tmps[p]?.getD undef = .pointer (some ⟨g, 0, none⟩) := by simpa using hp
  have hq' : tmps[q]?.getD undef = .pointer (some ⟨g2, 0, none⟩) := by simpa using hp2
  simp [results, h, hp', hq', asAddr, run_loadVar_row w g t ty cs fr d hg hu hd hi, run_loadVar_row w g2 t2 ty2 cs2 fr2 d2 hg2 hu2 hd2 hi2]
section
variable {P : Program} {Q : Exit → Act → World → Prop} {S : World → Prop} {fin : Act → World → Prop} {s1 s2 hd fr rest : List Nat} {k : Nat} {o : Oper} {l : List Oper} {a : Act} {w : World}
theorem wpKind_free_no (hs : kdL s1 s2 hd fr k = 4) (ho : l[k]? = some o) (hw : Region.wanted o (yielded l.toArray a.tmps) = false)
    (h : wpKind P l.toArray Q S (kdL s1 s2 hd fr) fin rest (a.put o.dst undef) w) : wpKind P l.toArray Q S (kdL s1 s2 hd fr) fin (k :: rest) a w := by
  unfold wpKind
  rw [if_neg (by rw [hs]; decide), if_pos hs]
  exact ⟨o, undef, by simpa using ho, .inr ⟨hw, rfl⟩, h⟩
theorem wpKind_held_no (hs : kdL s1 s2 hd fr k = 3) (ho : l[k]? = some o) (hw : Region.wanted o (yielded l.toArray a.tmps) = false) (hS : S w)
    (h : wpKind P l.toArray Q S (kdL s1 s2 hd fr) fin rest (a.put o.dst undef) w) : wpKind P l.toArray Q S (kdL s1 s2 hd fr) fin (k :: rest) a w := by
  unfold wpKind
  rw [if_neg (by rw [hs]; decide), if_neg (by rw [hs]; decide)]
  exact ⟨o, undef, by simpa using ho, hS, .inr ⟨hw, rfl⟩, h⟩
end
/-- A struct that lies within a block is read. -/
theorem wpList_load_part {P : Program} {ops : Array Oper} {rest : List Oper} {o : Oper} {a : Act} {w : World} {Q : Exit → Act → World → Prop} (hgd : o.guard = none) (ty : TypeId) (x : Operand) (ho : o.op = .load ty x)
    (b off : Nat) (hx : a.eval x = .pointer (some ⟨b, off, none⟩)) (t : TypeId) (cs : Array Value) (fr : Nat × Nat) (d : TypeDesc) (hg : w.heap[b]? = some (.cells cs t fr)) (vs : List Value) (hvs : (cs.toList.drop off).take vs.length = vs)
    (hu : P.underlying ty = some d) (hd : (match d with | .struct _ | .array _ _ => true | _ => false) = true) (hi : (P.info? ty).map (·.size) = some vs.length)
    (h : wpList P ops Q rest (a.put o.dst (.agg vs.toArray)) w) : wpList P ops Q (o :: rest) a w := by
  refine wpList_plain hgd fun _ hK => ?_
  have hl : (loadCells ⟨b, off, none⟩ vs.length).run P w = .ok vs.toArray w :=
    run_loadCells_list (P := P) w ⟨b, off, none⟩ vs (fun j v hv => by
      have hadd : (⟨b, off, none⟩ : Addr).add j = ⟨b, off + j, none⟩ := by unfold Addr.add; split <;> simp_all
      rw [hadd, cell_of_row w b (off + j) cs t fr hg]
      rw [← hvs, List.getElem?_take] at hv
      split at hv
      · rw [List.getElem?_drop] at hv
        simpa using hv
      · cases hv)
  have hlv : (loadVar ty ⟨b, off, none⟩).run P w = .ok (.agg vs.toArray) w := by
    cases hq : P.info? ty with
    | none => simp [hq] at hi
    | some i =>
      have hs : i.size = vs.length := by simpa [hq] using hi
      have hagg : (isAgg ty).run P w = .ok true w := by
        unfold isAgg
        rw [Sem.run_bind, run_underlying hu w]
        cases d <;> simp_all
      simp [loadVar, Sem.run_bind, hagg, sizeOf, typeInfo, hq, hs, hl]
  unfold Oper.wp execOp
  simp only [ho, hx, Instr.loadAt, Instr.sureAddr, Sem.run_bind, Sem.run_pure, Result.andThen_ok, hlv]
  exact hK _ _ h
theorem seven_all (n : Int) (A1 : Option Addr) (n1 c1 : Nat) (A2 : Option Addr) (n2 c2 : Nat) (A3 : Option Addr) (n3 c3 : Nat) (A4 : Option Addr) (n4 c4 : Nat) (A5 : Option Addr) (n5 c5 : Nat) (A6 : Option Addr) (n6 c6 : Nat) :
    (#[Value.int .i64 n, .slice A1 n1 c1, .slice A2 n2 c2, .slice A3 n3 c3, .slice A4 n4 c4, .slice A5 n5 c5, .slice A6 n6 c6] : Array Value).all (·.oneCell') = true := by simp [Value.oneCell']
def zeroM : SheetM := ⟨0, .slice none 0 0, .slice none 0 0, .slice none 0 0, .slice none 0 0, .slice none 0 0, .slice none 0 0, [], [], [], [], [], []⟩
theorem zeroM_good (w : World) (P : Nat → Prop) : zeroM.Good w P := ⟨Sl.nil_, Sl.nil_, Sl.nil_, Sl.nil_, (fun r hr => by cases hr), Sl.nil_, Sl.nil_⟩
/-- What is read, as it stands in memory. -/
theorem ShAt.good {B b : Nat} {x : SheetM} {w w' : World} (h : ShAt B b x w) (hs : w.heap.size ≤ w'.heap.size) (hk : ∀ k, B ≤ k → k < w.heap.size → w'.heap[k]? = w.heap[k]?) : x.Good w' (fun k => B ≤ k) := by
  have h' := h.keepB hs hk
  have he : ∀ r ∈ x.routes, r.Good w' (fun k => B ≤ k) := fun r hr => (h'.each r hr).mono fun k hk => hk.1
  exact ⟨(h'.s.sl nc_len).mono fun k hk => hk.2, (h'.p.sl pc_len).mono fun k hk => hk.2, (h'.d.sl dc_len).mono fun k hk => hk.2, ((h'.r.sl rcN_len).mono (P' := fun k => B ≤ k) fun k hk => hk.2).congr fun r hr => rcN_eq (he r hr), he, (h'.t.sl trc_len).mono fun k hk => hk.2, (h'.h.sl hc_len).mono fun k hk => hk.2⟩
theorem parseRun_go {L : List TokD} {n : Nat} {s : Rd} {d : SheetD} (h : s.e = 0) (ha : s.at_ < L.length) : parseRun L (n + 1) s d = parseRun L n (lineD L s d).1 (lineD L s d).2 := by
  conv => lhs; unfold parseRun
  rw [if_pos ⟨h, ha⟩]
theorem parseRun_stop {L : List TokD} {n : Nat} {s : Rd} {d : SheetD} (h : ¬ (s.e = 0 ∧ s.at_ < L.length)) : parseRun L n s d = (s, d) := by
  cases n with
  | zero => rfl
  | succ n => unfold parseRun; rw [if_neg h]
end Go.Proofs.YteonefgbdphmiaaGreatDoor
/- The reader of a sheet: a first fault stays; what is read does not hang on what stands behind (plain words). -/
namespace Go.Proofs.YteonefgbdphmiaaGreatDoor
open Go.RowKit
section
variable {L : List TokD} {s : Rd}
theorem takeD_bad {kind : Int} {k : List UInt8} (h : s.e ≠ 0) : takeD L s kind k = (s, zeroT) := by unfold takeD; rw [if_pos h]
theorem nameD_bad (h : s.e ≠ 0) : (nameD L s).1 = s := by unfold nameD; rw [takeD_bad h]
theorem numD_bad (h : s.e ≠ 0) : (numD L s).1 = s := by unfold numD; rw [takeD_bad h]
theorem keyD_bad {k : List UInt8} (h : s.e ≠ 0) : keyD L s k = s := by unfold keyD; rw [takeD_bad h]
theorem afterD_bad {k : List UInt8} (h : s.e ≠ 0) : (afterD L s k).1 = s := by unfold afterD; rw [keyD_bad h, numD_bad h]
theorem timesRD_bad {k : List UInt8} (h : s.e ≠ 0) : (timesRD L s k).1 = s := by
  unfold timesRD
  dsimp only
  rw [afterD_bad (k := kFrom) h, afterD_bad (k := kEvery) h, afterD_bad h]
theorem pathRD_bad (h : s.e ≠ 0) : (pathRD L s).1 = s := by
  unfold pathRD
  dsimp only
  rw [nameD_bad h, nameD_bad h, nameD_bad h, numD_bad h]
theorem doorRD_bad (h : s.e ≠ 0) : (doorRD L s).1 = s := by
  unfold doorRD
  dsimp only
  rw [pathRD_bad h, timesRD_bad h]
theorem tripRD_bad (h : s.e ≠ 0) : (tripRD L s).1 = s := by
  unfold tripRD
  dsimp only
  rw [nameD_bad h, keyD_bad h, nameD_bad h, afterD_bad (k := kFrom) h, afterD_bad (k := kEvery) h, afterD_bad h]
theorem hazRD_bad (h : s.e ≠ 0) : (hazRD L s).1 = s := by
  unfold hazRD
  dsimp only
  rw [nameD_bad h, keyD_bad h, nameD_bad h, timesRD_bad h]
theorem routeRD_bad (h : s.e ≠ 0) : (routeRD L s).1 = s := by
  unfold routeRD
  dsimp only
  rw [nameD_bad h, nameD_bad h, routeRun_bad h]
theorem midR_bad {n : Nat} (h : s.e ≠ 0) : midR L s n = s := by unfold midR; rw [if_neg (fun hh => h hh.2.1)]
theorem stayR_bad (h : s.e ≠ 0) : (stayR L s).1 = s := by
  unfold stayR
  split
  · exact afterD_bad h
  · rfl
theorem parseRun_bad {n : Nat} {d : SheetD} (h : s.e ≠ 0) : parseRun L n s d = (s, d) := by
  cases n with
  | zero => rfl
  | succ n => unfold parseRun; rw [if_neg (fun hh => h hh.1)]
end
/-- The token that a reader took. -/
theorem take_kind {L : List TokD} {s : Rd} {kind : Int} {k : List UInt8} (h : (takeD L s kind k).1.e = 0) : s.e = 0 ∧ (takeD L s kind k).2 = nowD L s ∧ (nowD L s).kind = kind ∧ takeD L s kind k = (⟨s.at_ + 1, s.e, s.ln, s.cl⟩, nowD L s) := by
  unfold takeD at h ⊢
  by_cases he : s.e ≠ 0
  · rw [if_pos he] at h; exact absurd h he
  · rw [if_neg he] at h ⊢
    have he0 : s.e = 0 := by simpa using he
    by_cases hm : mis (nowD L s) kind k = true
    · rw [if_pos hm] at h
      unfold failD at h
      rw [if_pos he0] at h
      exact absurd h (by show (7 : Int) ≠ 0; decide)
    · rw [if_neg hm]
      refine ⟨he0, rfl, ?_, rfl⟩
      unfold mis at hm
      simp only [Bool.or_eq_true, not_or, bne_iff_ne, ne_eq, Decidable.not_not] at hm
      exact hm.1
theorem now_out {L : List TokD} {s : Rd} (h : L.length ≤ s.at_) : nowD L s = endT := by unfold nowD; rw [List.getD_eq_getElem?_getD, List.getElem?_eq_none h]; rfl
theorem now_in {L : List TokD} {s : Rd} (h : s.at_ < L.length) : L[s.at_]? = some (nowD L s) := by unfold nowD; rw [List.getD_eq_getElem?_getD, List.getElem?_eq_getElem h]; rfl
/-- Behind what was taken: not the last token, if that is an end and this is none. -/
def EndsE (L : List TokD) : Prop := ∀ t, L.getLast? = some t → t.kind = 4
theorem take_lt {L : List TokD} {s : Rd} {kind : Int} {k : List UInt8} (hL : EndsE L) (hk : kind ≠ 4) (h : (takeD L s kind k).1.e = 0) : (takeD L s kind k).1.at_ < L.length := by
  obtain ⟨h1, h2, h3, h4⟩ := take_kind h
  rw [h4]
  show s.at_ + 1 < L.length
  rcases Nat.lt_or_ge s.at_ L.length with hl | hl
  · refine Decidable.byContradiction fun hc => ?_
    have h5 := hL (nowD L s) (by
      rw [List.getLast?_eq_getElem?, show L.length - 1 = s.at_ by omega]
      exact now_in hl)
    rw [h3] at h5
    exact hk h5
  · rw [now_out hl] at h3
    exact absurd h3.symm hk
theorem name_lt {L : List TokD} {s : Rd} (hL : EndsE L) (h : (nameD L s).1.e = 0) : (nameD L s).1.at_ < L.length := take_lt (kind := 1) hL (by decide) h
theorem num_lt {L : List TokD} {s : Rd} (hL : EndsE L) (h : (numD L s).1.e = 0) : (numD L s).1.at_ < L.length := take_lt (kind := 3) hL (by decide) h
theorem key_lt {L : List TokD} {s : Rd} {k : List UInt8} (hL : EndsE L) (h : (keyD L s k).e = 0) : (keyD L s k).at_ < L.length := take_lt (kind := 2) hL (by decide) h
theorem after_lt {L : List TokD} {s : Rd} {k : List UInt8} (hL : EndsE L) (h : (afterD L s k).1.e = 0) : (afterD L s k).1.at_ < L.length := num_lt hL h
theorem run_lt {L : List TokD} (hL : EndsE L) : ∀ (n : Nat) (s : Rd) (ss : Nms) (rs ys : List Int), s.at_ < L.length → (routeRun L n s ss rs ys).1.e = 0 → (routeRun L n s ss rs ys).1.at_ < L.length := by
  intro n
  induction n with
  | zero => intro s ss rs ys h _; exact h
  | succ n ih =>
    intro s ss rs ys h he
    by_cases h0 : s.e = 0
    · by_cases hm : (nameD L (midR L (numD L s).1 ss.length)).1.e ≠ 0 ∨ (nowD L (nameD L (midR L (numD L s).1 ss.length)).1).kind = 4
      · rw [routeRun_ret h0 hm] at he ⊢
        exact name_lt hL he
      · rw [routeRun_go h0 hm] at he ⊢
        have hm1 : (nameD L (midR L (numD L s).1 ss.length)).1.e = 0 := Decidable.byContradiction fun h => hm (.inl h)
        refine ih _ _ _ _ ?_ he
        have h9 := name_lt hL hm1
        unfold stayR
        split
        · rename_i hc
          rcases Decidable.em ((afterD L (nameD L (midR L (numD L s).1 ss.length)).1 kStay).1.e = 0) with h8 | h8
          · exact after_lt hL h8
          · exfalso
            unfold stayR at he
            rw [if_pos hc, routeRun_bad h8] at he
            exact h8 he
        · exact h9
    · rw [routeRun_bad h0] at he
      exact absurd he h0
theorem route_lt {L : List TokD} {s : Rd} (hL : EndsE L) (h : (routeRD L s).1.e = 0) : (routeRD L s).1.at_ < L.length := by
  have h1 : (nameD L (nameD L s).1).1.e = 0 := Decidable.byContradiction fun hc => by
    have h : (routeRun L (L.length + 1) (nameD L (nameD L s).1).1 [(nameD L (nameD L s).1).2] [] []).1.e = 0 := h
    rw [routeRun_bad hc] at h
    exact hc h
  exact run_lt hL _ _ _ _ _ (name_lt hL h1) h
theorem thing_lt {L : List TokD} {s : Rd} {d : SheetD} {k : List UInt8} (hL : EndsE L) (h : (thingD L s d k).1.e = 0) : (thingD L s d k).1.at_ < L.length := by
  unfold thingD at h ⊢
  split at h
  · rename_i hc; rw [if_pos hc]; exact name_lt hL h
  · rename_i hc; rw [if_neg hc]
    split at h
    · rename_i hc; rw [if_pos hc]; exact num_lt hL h
    · rename_i hc; rw [if_neg hc]
      split at h
      · rename_i hc; rw [if_pos hc]; exact after_lt hL h
      · rename_i hc; rw [if_neg hc]
        split at h
        · rename_i hc; rw [if_pos hc]; exact route_lt hL h
        · rename_i hc; rw [if_neg hc]
          split at h
          · rename_i hc; rw [if_pos hc]; exact after_lt hL h
          · rename_i hc; rw [if_neg hc]; exact after_lt hL h
end Go.Proofs.YteonefgbdphmiaaGreatDoor
