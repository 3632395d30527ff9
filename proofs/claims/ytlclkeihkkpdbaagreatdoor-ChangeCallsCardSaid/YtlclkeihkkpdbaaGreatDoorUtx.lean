/- ChangeChecks: plain. -/
import Derived.Test.YtlclkeihkkpdbaaGreatDoorUa
import Derived.Test.YtlclkeihkkpdbaaGreatDoorUm
import Derived.Test.YtlclkeihkkpdbaaGreatDoorTq
import Derived.Test.YtlclkeihkkpdbaaGreatDoorLp
namespace Go.Proofs.YtlclkeihkkpdbaaGreatDoor
open Go.RowKit
theorem inD_ok {m : Int} (h1 : 1 ≤ m) (h2 : m ≤ 1000) : inD m 0 = true ∧ inD m 1 = true := by
  unfold inD
  constructor <;> simp <;> omega
theorem check_alters (u : UpD) (m : Int) (h1 : 1 ≤ m) (h2 : m ≤ 1000) (h : checkU u = 0) :
    (checkU { u with pos := m } = 0 ↔ u.kind = 1) ∧ (checkU { u with by_ := m } = 0 ↔ u.kind = 1) ∧ (checkU { u with no := m } = 0 ↔ u.kind ≤ 3) ∧ (checkU { u with len := m } = 0 ↔ ¬ u.kind ≤ 3) := by
  obtain ⟨k, nm, no, pos, by_, fr, ev, ln⟩ := u
  obtain ⟨g0, g1⟩ := inD_ok h1 h2
  have hm : m ≠ 0 := by omega
  unfold checkU at h
  split at h
  · rename_i hh
    obtain ⟨a, b, c⟩ := hh
    unfold bareD at a c
    dsimp only at a c
    split at a
    · rename_i hk
      simp [checkU, bareD, hk] at *
      simp_all
    · split at a
      · rename_i hk0 hk
        rcases hk with rfl | rfl <;> simp [checkU, bareD] at * <;> simp_all
      · split at a
        · rename_i hk0 hk1 hk
          rcases hk with rfl | rfl <;> simp [checkU, bareD] at * <;> simp_all
        · cases a
  · exact absurd h (by decide)
end Go.Proofs.YtlclkeihkkpdbaaGreatDoor
/- An update's text (plain): its parts, what may be, how it is cut, and that it is read as the update. -/
namespace Go.Proofs.YtlclkeihkkpdbaaGreatDoor
open Go.RowKit
def numU (u : UpD) (off : Nat) : Int := if off = 8 then u.no else if off = 9 then u.pos else if off = 4 then u.by_ else if off = 5 then u.from_ else if off = 6 then u.every else u.len
def fldT (u : UpD) : Fld → List UInt8
  | .word w => w
  | .name => u.name
  | .num off _ => Lib.itoa (numU u off)
def partsU (u : UpD) : List (List UInt8) := (formD u.kind).map (fldT u)
def textU (u : UpD) : List UInt8 := Lib.join (partsU u) [32]
def IsTk (n : Int) : Prop := 0 ≤ n ∧ n ≤ 1099511627776
theorem inD_tk {n low : Int} (h : inD n low = true) : low ≤ n ∧ n ≤ 1099511627776 := by unfold inD at h; simpa using h
theorem check_kinds (u : UpD) (h : checkU u = 0) : Nm.name u.name = true ∧
    ((u.kind = 1 ∧ IsTk u.no ∧ IsTk u.pos ∧ 1 ≤ u.by_ ∧ u.by_ ≤ 1099511627776 ∧ u.from_ = 0 ∧ u.every = 0 ∧ u.len = 0) ∨
     ((u.kind = 2 ∨ u.kind = 3) ∧ IsTk u.no ∧ u.pos = 0 ∧ u.by_ = 0 ∧ u.from_ = 0 ∧ u.every = 0 ∧ u.len = 0) ∨
     ((u.kind = 4 ∨ u.kind = 5) ∧ u.no = 0 ∧ u.pos = 0 ∧ u.by_ = 0 ∧ IsTk u.from_ ∧ IsTk u.every ∧ IsTk u.len)) := by
  obtain ⟨k, nm, no, pos, by_, fr, ev, ln⟩ := u
  unfold checkU at h
  split at h
  · rename_i hh
    obtain ⟨a, b, c⟩ := hh
    refine ⟨b, ?_⟩
    unfold bareD at a c
    dsimp only at a c ⊢
    by_cases h1 : k = 1
    · rw [if_pos h1] at a c
      dsimp only at a c
      rw [Bool.and_eq_true, Bool.and_eq_true] at a
      have i1 := inD_tk a.1.1
      have i2 := inD_tk a.1.2
      have i3 := inD_tk a.2
      simp only [UpD.mk.injEq] at c
      exact .inl ⟨h1, i3, i1, i2.1, i2.2, c.2.2.2.2.2.1, c.2.2.2.2.2.2.1, c.2.2.2.2.2.2.2⟩
    rw [if_neg h1] at a c
    by_cases h2 : k = 2 ∨ k = 3
    · rw [if_pos h2] at a c
      dsimp only at a c
      have i1 := inD_tk a
      simp only [UpD.mk.injEq] at c
      exact .inr (.inl ⟨h2, i1, c.2.2.2.1, c.2.2.2.2.1, c.2.2.2.2.2.1, c.2.2.2.2.2.2.1, c.2.2.2.2.2.2.2⟩)
    rw [if_neg h2] at a c
    by_cases h3 : k = 4 ∨ k = 5
    · rw [if_pos h3] at a c
      dsimp only at a c
      rw [Bool.and_eq_true, Bool.and_eq_true] at a
      have i1 := inD_tk a.1.1
      have i2 := inD_tk a.1.2
      have i3 := inD_tk a.2
      simp only [UpD.mk.injEq] at c
      exact .inr (.inr ⟨h3, c.2.2.1, c.2.2.2.1, c.2.2.2.2.1, i1, i2, i3⟩)
    rw [if_neg h3] at a
    cases a
  · exact absurd h (by decide)
theorem form1 : formD 1 = [.word kDelay, .name, .num 8 0, .word kFrom, .num 9 0, .word kBy, .num 4 1] := by decide +kernel
theorem form2 : formD 2 = [.word kCancel, .name, .num 8 0] := by decide +kernel
theorem form3 : formD 3 = [.word kRestore, .name, .num 8 0] := by decide +kernel
theorem form4 : formD 4 = [.word kDoor, .name, .word kFrom, .num 5 0, .word kEvery, .num 6 0, .word kOpen, .num 7 0] := by decide +kernel
theorem form5 : formD 5 = [.word kHazard, .name, .word kFrom, .num 5 0, .word kEvery, .num 6 0, .word kClosed, .num 7 0] := by decide +kernel
/-- A word of a line. -/
def okW (w : List UInt8) : Bool := (Nm.cls (w.headD 0) == 1) && w.all Nm.more && decide (w.length ≤ 24) && decide (0 < w.length)
/-- A part that may be. -/
def GoodF (u : UpD) : Fld → Prop
  | .word w => okW w = true
  | .name => Nm.name u.name = true
  | .num off low => IsTk (numU u off) ∧ low ≤ numU u off
theorem check_form (u : UpD) (h : checkU u = 0) : ∀ x ∈ formD u.kind, GoodF u x := by
  obtain ⟨hn, hc⟩ := check_kinds u h
  have e8 : numU u 8 = u.no := rfl
  have e9 : numU u 9 = u.pos := rfl
  have e4 : numU u 4 = u.by_ := rfl
  have e5 : numU u 5 = u.from_ := rfl
  have e6 : numU u 6 = u.every := rfl
  have e7 : numU u 7 = u.len := rfl
  intro x hx
  rcases hc with ⟨hk, h1, h2, h3, h4, _⟩ | ⟨hk, h1, _⟩ | ⟨hk, _, _, _, h1, h2, h3⟩
  · rw [hk, form1] at hx
    simp only [List.mem_cons, List.not_mem_nil, or_false] at hx
    rcases hx with rfl | rfl | rfl | rfl | rfl | rfl | rfl
    · exact (by decide +kernel : okW kDelay = true)
    · exact hn
    · exact ⟨e8 ▸ h1, e8 ▸ h1.1⟩
    · exact (by decide +kernel : okW kFrom = true)
    · exact ⟨e9 ▸ h2, e9 ▸ h2.1⟩
    · exact (by decide +kernel : okW kBy = true)
    · exact ⟨⟨by rw [e4]; omega, e4 ▸ h4⟩, e4 ▸ h3⟩
  · rcases hk with hk | hk
    · rw [hk, form2] at hx
      simp only [List.mem_cons, List.not_mem_nil, or_false] at hx
      rcases hx with rfl | rfl | rfl
      · exact (by decide +kernel : okW kCancel = true)
      · exact hn
      · exact ⟨e8 ▸ h1, e8 ▸ h1.1⟩
    · rw [hk, form3] at hx
      simp only [List.mem_cons, List.not_mem_nil, or_false] at hx
      rcases hx with rfl | rfl | rfl
      · exact (by decide +kernel : okW kRestore = true)
      · exact hn
      · exact ⟨e8 ▸ h1, e8 ▸ h1.1⟩
  · rcases hk with hk | hk
    · rw [hk, form4] at hx
      simp only [List.mem_cons, List.not_mem_nil, or_false] at hx
      rcases hx with rfl | rfl | rfl | rfl | rfl | rfl | rfl | rfl
      · exact (by decide +kernel : okW kDoor = true)
      · exact hn
      · exact (by decide +kernel : okW kFrom = true)
      · exact ⟨e5 ▸ h1, e5 ▸ h1.1⟩
      · exact (by decide +kernel : okW kEvery = true)
      · exact ⟨e6 ▸ h2, e6 ▸ h2.1⟩
      · exact (by decide +kernel : okW kOpen = true)
      · exact ⟨e7 ▸ h3, e7 ▸ h3.1⟩
    · rw [hk, form5] at hx
      simp only [List.mem_cons, List.not_mem_nil, or_false] at hx
      rcases hx with rfl | rfl | rfl | rfl | rfl | rfl | rfl | rfl
      · exact (by decide +kernel : okW kHazard = true)
      · exact hn
      · exact (by decide +kernel : okW kFrom = true)
      · exact ⟨e5 ▸ h1, e5 ▸ h1.1⟩
      · exact (by decide +kernel : okW kEvery = true)
      · exact ⟨e6 ▸ h2, e6 ▸ h2.1⟩
      · exact (by decide +kernel : okW kClosed = true)
      · exact ⟨e7 ▸ h3, e7 ▸ h3.1⟩
/-- A part's token. -/
def tokF (u : UpD) : Fld → TokD
  | .word w => ⟨if Nm.res w = true then 2 else 1, w, 0, 0, 0⟩
  | .name => ⟨1, u.name, 0, 0, 0⟩
  | .num off _ => ⟨3, Lib.itoa (numU u off), numU u off, 0, 0⟩
theorem tokF_text (u : UpD) (x : Fld) : (tokF u x).text = fldT u x := by cases x <;> rfl
theorem dig_is (c : UInt8) : Nm.dig c = Tk.isDig c := by
  rw [Bool.eq_iff_iff, Tk.isDig_iff]
  unfold Nm.dig
  rw [decide_eq_true_eq]
theorem num_parts {n : Int} (h : IsTk n) : (∃ b r, Lib.itoa n = b :: r ∧ Nm.cls b = 2) ∧ (Lib.itoa n).all Nm.dig = true ∧ Tk.parseE (Lib.itoa n) = 0 ∧ Tk.parseV (Lib.itoa n) = n ∧ (Lib.itoa n).length ≤ 24 := by
  have hT : Tk.isT n = true := Tk.isT_tick h
  have hr : Tk.textB n = Lib.itoa n := by unfold Tk.textB; rw [if_neg (by have := h.2; omega), if_pos hT]
  have hp := Tk.parse_text hT
  rw [hr] at hp
  have hl := Lib.itoa_length_le n (by have := h.1; omega) (by have := h.2; omega)
  obtain ⟨m, rfl⟩ := Int.eq_ofNat_of_zero_le h.1
  rw [Lib.itoa_nonneg] at hp hl ⊢
  have hd := Tk.dec_digs m
  have hd2 : (Lib.decDigits m).all Nm.dig = true := by
    rw [List.all_eq_true] at hd ⊢
    intro x hx
    rw [dig_is]; exact hd x hx
  refine ⟨?_, hd2, hp.1, hp.2, by omega⟩
  cases he : Lib.decDigits m with
  | nil => exact absurd he (Tk.dec_ne m)
  | cons b r =>
    refine ⟨b, r, rfl, ?_⟩
    rw [he, List.all_cons, Bool.and_eq_true] at hd2
    have := Nm.cls_dig b
    rw [hd2.1] at this
    exact beq_iff_eq.1 this
theorem name_parts {l : List UInt8} (h : Nm.name l = true) : (∃ b r, l = b :: r ∧ Nm.cls b = 1) ∧ l.all Nm.more = true ∧ l.length ≤ 24 ∧ Nm.res l = false := by
  unfold Nm.name Nm.word at h
  simp only [Bool.and_eq_true, decide_eq_true_eq, Bool.not_eq_true'] at h
  obtain ⟨⟨⟨⟨h1, h2⟩, h3⟩, h4⟩, h5⟩ := h
  refine ⟨?_, h4, h2, h5⟩
  cases l with
  | nil => exact absurd h1 (Nat.lt_irrefl _)
  | cons b r => exact ⟨b, r, rfl, by unfold Nm.cls; rw [if_pos (show Nm.low b = true from h3)]⟩
theorem tokF_good (u : UpD) (x : Fld) (h : GoodF u x) : GoodT (tokF u x) ∧ (tokF u x).kind ≠ 4 ∧ (fldT u x).length ≤ 24 := by
  cases x with
  | word w =>
    have h' : okW w = true := h
    unfold okW at h'
    simp only [Bool.and_eq_true, decide_eq_true_eq, beq_iff_eq] at h'
    obtain ⟨⟨⟨h1, h2⟩, h3⟩, h4⟩ := h'
    refine ⟨.inr (.inl ⟨rfl, rfl, ?_, h2, h3⟩), ?_, h3⟩
    · cases w with
      | nil => exact absurd h4 (Nat.lt_irrefl _)
      | cons b r => exact ⟨b, r, rfl, h1⟩
    · show (if Nm.res w = true then (2 : Int) else 1) ≠ 4
      split <;> decide
  | name =>
    obtain ⟨h1, h2, h3, h4⟩ := name_parts h
    refine ⟨.inr (.inl ⟨?_, rfl, h1, h2, h3⟩), by show (1 : Int) ≠ 4; decide, h3⟩
    show (1 : Int) = if Nm.res u.name = true then 2 else 1
    rw [h4]; rfl
  | num off low =>
    obtain ⟨h1, h2, h3, h4, h5⟩ := num_parts h.1
    exact ⟨.inr (.inr ⟨rfl, h4.symm, h1, h2, h3⟩), by show (3 : Int) ≠ 4; decide, h5⟩
/-- What a line's parts are cut into. -/
def keysU (u : UpD) : List (Int × List UInt8 × Int) := (formD u.kind).map fun x => key (tokF u x)
variable {F : Cur} {R : List UInt8} {ks : List (Int × List UInt8 × Int)} {sm : Bool}
theorem joinTail_cons (y : List UInt8) (r : List (List UInt8)) : Lib.joinTail [32] (y :: r) = 32 :: (y ++ Lib.joinTail [32] r) := by
  unfold Lib.joinTail
  rw [List.map_cons, List.flatten_cons]
  rfl
theorem joinTail_nil : Lib.joinTail [32] [] = [] := rfl
theorem joinTail_head (l : List (List UInt8)) (hR : ∀ b r, R = b :: r → Nm.cls b = 0) : ∀ b r, Lib.joinTail [32] l ++ R = b :: r → Nm.cls b = 0 := by
  intro b r h
  cases l with
  | nil => exact hR b r h
  | cons y l =>
    rw [joinTail_cons] at h
    injection h with h _
    rw [← h]; rfl
theorem mid_parts (u : UpD) : ∀ (fs : List Fld) (ks : List (Int × List UInt8 × Int)), (∀ x ∈ fs, GoodF u x) → (∀ b r, R = b :: r → Nm.cls b = 0) → Mid F (Lib.joinTail [32] (fs.map (fldT u)) ++ R) ks true → Mid F R (ks ++ fs.map fun x => key (tokF u x)) true := by
  intro fs
  induction fs with
  | nil =>
    intro ks _ _ h
    rw [List.map_nil, List.append_nil]
    exact h
  | cons x fs ih =>
    intro ks hg hR h
    rw [List.map_cons, joinTail_cons, List.cons_append, List.append_assoc] at h
    have h1 := Mid.blank (.inl rfl) h
    obtain ⟨g1, g2, _⟩ := tokF_good u x (hg x List.mem_cons_self)
    rw [← tokF_text u x] at h1
    have h2 := h1.tok g1 g2 (joinTail_head _ hR)
    have h3 := ih _ (fun y hy => hg y (List.mem_cons_of_mem _ hy)) hR h2
    rw [List.append_assoc] at h3
    exact h3
theorem form_cons (k : Int) : ∃ x xs, formD k = x :: xs := by
  unfold formD wordsD
  (repeat' split) <;> exact ⟨_, _, rfl⟩
theorem form_two (k : Int) : 2 ≤ (formD k).length := by
  unfold formD wordsD
  rw [List.length_map]
  (repeat' split) <;> (simp only [List.length_cons, List.length_nil]; omega)
theorem mid_text (u : UpD) (h : checkU u = 0) (hR : ∀ b r, R = b :: r → Nm.cls b = 0) (hm : Mid F (textU u ++ R) ks sm) : Mid F R (ks ++ keysU u) true := by
  have hg := check_form u h
  unfold textU partsU keysU at *
  obtain ⟨x, xs, hx⟩ := form_cons u.kind
  rw [hx] at hm hg ⊢
  rw [List.map_cons, Lib.join_cons, List.append_assoc] at hm
  obtain ⟨g1, g2, _⟩ := tokF_good u x (hg x List.mem_cons_self)
  rw [← tokF_text u x] at hm
  have h2 := hm.tok g1 g2 (joinTail_head _ hR)
  have h3 := mid_parts u xs _ (fun y hy => hg y (List.mem_cons_of_mem _ hy)) hR h2
  rw [List.append_assoc] at h3
  exact h3
/-- A line's end is the text's. -/
theorem Mid.fin1 (h : Mid F [] ks true) : F.out.map key = ks ++ [endK] ∧ F.err = 0 := by
  obtain ⟨c, h1, h2, h3, h4, h5, h6⟩ := h
  have hp := rest_nil h2.ok h3
  have hst : stepSt .any c = (.end_, c) := by
    show stepAny c = _
    unfold stepAny
    rw [if_pos (.inl hp)]
  rw [final_step h2 St.noConfusion, hst] at h1
  have h7 := (step_inv h2 St.noConfusion).1
  rw [hst] at h7
  have h8 := h7.resolve_left St.noConfusion
  have hst2 : stepSt .end_ c = (.none, c.close) := by
    show stepEnd c = _
    unfold stepEnd
    rw [if_pos hp]
  rw [final_step h8 St.noConfusion, hst2, final_none] at h1
  subst h1
  unfold Cur.close
  rw [if_pos h5]
  refine ⟨?_, h6⟩
  show (c.out ++ [_]).map key = _
  rw [List.map_append, h4]
  rfl
theorem Mid.remark_end {m : List UInt8} (hm : ∀ b ∈ m, b ≠ 10) (h : Mid F (35 :: m) ks sm) : Mid F [] ks sm := by
  obtain ⟨c, h1, h2, h3, h4, h5, h6⟩ := h
  obtain ⟨r1, r2, r3⟩ := rest_cons h3
  have hst : stepSt .any c = (.remark, c) := by
    show stepAny c = _
    unfold stepAny
    rw [r2, if_neg (by rintro (h | h); · omega
                       · cases h), if_pos rfl]
  rw [final_step h2 St.noConfusion, hst] at h1
  have h7 := (step_inv h2 St.noConfusion).1
  rw [hst] at h7
  have h8 := h7.resolve_left St.noConfusion
  have he : c.eol = c.pos + (35 :: m).length := by
    show c.pos + Nm.pre (fun b => b != 10) c.rest = _
    rw [h3, show (35 : UInt8) :: m = (35 :: m) ++ [] by rw [List.append_nil], pre_all (fun b => b != 10) (35 :: m) []]
    · rw [List.append_nil]
    · rw [List.all_eq_true]
      intro x hx
      rcases List.mem_cons.1 hx with rfl | hx
      · rfl
      · simpa using hm x hx
    · rintro b r e
      cases e
  have hst2 : stepSt .remark c = (.any, { c with pos := c.eol }) := rfl
  rw [final_step h8 St.noConfusion, hst2] at h1
  have h9 := (step_inv h8 St.noConfusion).1
  rw [hst2] at h9
  refine ⟨_, h1, h9.resolve_left St.noConfusion, ?_, h4, h5, h6⟩
  show c.s.data.toList.drop c.eol = _
  rw [he]
  exact drop_at (x := 35 :: m) (R := []) (by rw [List.append_nil]; exact h3)
/-- Parts against their tokens. -/
theorem take_key (u : UpD) (x : Fld) (t : TokD) (hg : GoodF u x) (hk : key t = key (tokF u x)) : takeD x t = true ∧ ∀ f, setF x t f = setF x (tokF u x) f := by
  unfold key at hk
  injection hk with k1 k2
  injection k2 with k2 k3
  cases x with
  | word w =>
    refine ⟨?_, fun f => rfl⟩
    show ((t.kind == 1 || t.kind == 2) && t.text == w) = true
    rw [k1, k2]
    show (((if Nm.res w = true then (2 : Int) else 1) == 1 || (if Nm.res w = true then (2 : Int) else 1) == 2) && w == w) = true
    rw [beq_self_eq_true, Bool.and_true]
    split <;> rfl
  | name =>
    refine ⟨?_, fun f => by unfold setF; rw [k2]⟩
    show (t.kind == 1) = true
    rw [k1]; rfl
  | num off low =>
    refine ⟨?_, fun f => by unfold setF; rw [k3]⟩
    show (t.kind == 3 && decide (low ≤ t.num)) = true
    rw [k1, k3]
    show ((3 : Int) == 3 && decide (low ≤ numU u off)) = true
    rw [decide_eq_true hg.2]; rfl
theorem run_key (u : UpD) : ∀ (fs : List Fld) (l : List TokD) (f : FormU), (∀ x ∈ fs, GoodF u x) → l.map key = (fs.map fun x => key (tokF u x)) ++ [endK] → runU fs l f = (fs.foldl (fun f x => setF x (tokF u x) f) f, none) := by
  intro fs
  induction fs with
  | nil =>
    intro l f _ hl
    cases l with
    | nil => cases hl
    | cons t l =>
      rw [List.map_cons] at hl
      injection hl with h1 h2
      unfold key endK at h1
      injection h1 with h1 _
      rw [runU, if_pos h1]
      rfl
  | cons x fs ih =>
    intro l f hg hl
    cases l with
    | nil => cases hl
    | cons t l =>
      rw [List.map_cons, List.map_cons, List.cons_append] at hl
      injection hl with h1 h2
      obtain ⟨k1, k2⟩ := take_key u x t (hg x List.mem_cons_self) h1
      rw [runU, if_pos k1, k2, ih l _ (fun y hy => hg y (List.mem_cons_of_mem _ hy)) h2]
      rfl
theorem line_key (u : UpD) (h : checkU u = 0) (l : List TokD) (hl : l.map key = keysU u ++ [endK]) : lineU l = (u, 0, 0, 0) := by
  have hr := run_key u (formD u.kind) l (blankU u.kind) (check_form u h) hl
  obtain ⟨hn, hc⟩ := check_kinds u h
  cases l with
  | nil => cases hl' : keysU u <;> rw [hl'] at hl <;> cases hl
  | cons t l =>
    unfold lineU
    dsimp only
    have hkind : ∀ w : List UInt8, (keysU u).head? = some (key ⟨if Nm.res w = true then 2 else 1, w, 0, 0, 0⟩) → t.kind ≠ 4 ∧ t.text = w := by
      intro w hw
      cases hks : keysU u with
      | nil => rw [hks] at hw; cases hw
      | cons a b =>
        rw [hks, List.head?_cons] at hw
        injection hw with hw
        subst hw
        rw [hks, List.map_cons, List.cons_append] at hl
        injection hl with h1 _
        unfold key at h1
        injection h1 with k1 k2
        injection k2 with k2 _
        refine ⟨?_, k2⟩
        rw [k1]
        show (if Nm.res w = true then (2 : Int) else 1) ≠ 4
        split <;> decide
    obtain ⟨k, nm, no, pos, by_, fr, ev, ln⟩ := u
    dsimp only at hc hr hkind
    rcases hc with ⟨rfl, _, _, _, _, rfl, rfl, rfl⟩ | ⟨rfl | rfl, _, rfl, rfl, rfl, rfl, rfl⟩ | ⟨rfl | rfl, rfl, rfl, rfl, _, _, _⟩
    · obtain ⟨q1, q2⟩ := hkind kDelay (by unfold keysU; rw [form1]; rfl)
      have hk : kindU t = 1 := by unfold kindU; rw [if_neg q1, q2]; rfl
      rw [hk, if_neg (by decide), hr, form1]
      rfl
    · obtain ⟨q1, q2⟩ := hkind kCancel (by unfold keysU; rw [form2]; rfl)
      have hk : kindU t = 2 := by unfold kindU; rw [if_neg q1, q2]; decide
      rw [hk, if_neg (by decide), hr, form2]
      rfl
    · obtain ⟨q1, q2⟩ := hkind kRestore (by unfold keysU; rw [form3]; rfl)
      have hk : kindU t = 3 := by unfold kindU; rw [if_neg q1, q2]; decide
      rw [hk, if_neg (by decide), hr, form3]
      rfl
    · obtain ⟨q1, q2⟩ := hkind kDoor (by unfold keysU; rw [form4]; rfl)
      have hk : kindU t = 4 := by unfold kindU; rw [if_neg q1, q2]; decide
      rw [hk, if_neg (by decide), hr, form4]
      rfl
    · obtain ⟨q1, q2⟩ := hkind kHazard (by unfold keysU; rw [form5]; rfl)
      have hk : kindU t = 5 := by unfold kindU; rw [if_neg q1, q2]; decide
      rw [hk, if_neg (by decide), hr, form5]
      rfl
theorem split_one : ∀ (l acc : List TokD) (ks : List (Int × List UInt8 × Int)), l.map key = ks ++ [endK] → (∀ k ∈ ks, k.1 ≠ 4) → splitE acc l = [acc ++ l] := by
  intro l
  induction l with
  | nil => intro acc ks h _; cases ks <;> cases h
  | cons t l ih =>
    intro acc ks h hk
    rw [splitE]
    cases ks with
    | nil =>
      rw [List.map_cons, List.nil_append] at h
      injection h with h1 h2
      unfold key endK at h1
      injection h1 with h1 _
      have : l = [] := List.map_eq_nil_iff.1 h2
      subst this
      rw [if_pos h1]
      rfl
    | cons a ks =>
      rw [List.map_cons, List.cons_append] at h
      injection h with h1 h2
      have h4 : ¬ t.kind = 4 := by
        have := hk a List.mem_cons_self
        rw [← h1] at this
        exact this
      rw [if_neg h4, ih (acc ++ [t]) ks h2 (fun k hk' => hk k (List.mem_cons_of_mem _ hk')), List.append_assoc]
      rfl
theorem keysU_kind (u : UpD) (h : checkU u = 0) : ∀ k ∈ keysU u, k.1 ≠ 4 := by
  intro k hk
  obtain ⟨x, hx, rfl⟩ := List.mem_map.1 hk
  exact (tokF_good u x (check_form u h x hx)).2.1
/-- A text that is on the way to an update's tokens is read as it. -/
theorem read_mid (u : UpD) (h : checkU u = 0) (p : ByteArray) (hp : p.size ≤ 65536) (hm : (lexed p).out.map key = keysU u ++ [endK]) (he : (lexed p).err = 0) : (readU p).us = [u] ∧ (readU p).err = 0 ∧ (readU p).line = 0 ∧ (readU p).col = 0 := by
  have e : allD p = ((lexed p).out, ⟨0, 0, 0⟩) := by
    unfold allD
    rw [if_neg (by omega), if_neg (fun h => h he)]
  have hr : readU p = readL [(lexed p).out] := by
    unfold readU
    rw [e, if_neg (fun h => h rfl), split_one _ [] _ hm (keysU_kind u h)]
    rfl
  have hl := line_key u h _ hm
  rw [hr, readL, hl, if_neg (fun h => h rfl), if_neg (fun h => h rfl)]
  exact ⟨rfl, rfl, rfl, rfl⟩
/-- What may stand ahead of a line, and behind it. -/
def aheadB : Nat → List UInt8
  | 0 => []
  | 1 => [32, 32]
  | 2 => [35, 32, 120, 10]
  | _ => [10, 10, 9]
def behindB : Nat → List UInt8
  | 0 => []
  | 1 => [32, 35, 32, 121]
  | _ => [32]
theorem Mid.ahead (i : Nat) (h : Mid F (aheadB i ++ R) [] false) : Mid F R [] false := by
  match i with
  | 0 => exact h
  | 1 => exact Mid.blank (.inl rfl) (Mid.blank (.inl rfl) h)
  | 2 => exact (Mid.remark (m := [32, 120]) (by decide) h).line
  | _ + 3 => exact Mid.blank (.inr rfl) (Mid.line (Mid.line h))
theorem Mid.behind (i : Nat) (h : Mid F (behindB i) ks sm) : Mid F [] ks sm := by
  match i with
  | 0 => exact h
  | 1 => exact Mid.remark_end (m := [32, 121]) (by decide) (Mid.blank (.inl rfl) h)
  | _ + 2 => exact Mid.blank (.inl rfl) h
theorem behind_head (i : Nat) : ∀ b r, behindB i = b :: r → Nm.cls b = 0 := by
  intro b r h
  match i with
  | 0 => cases h
  | 1 => injection h with h _; rw [← h]; rfl
  | _ + 2 => injection h with h _; rw [← h]; rfl
theorem read_piece (u : UpD) (h : checkU u = 0) (i j : Nat) (p : ByteArray) (hp : p.size ≤ 65536) (e : p.data.toList = aheadB i ++ (textU u ++ behindB j)) : (readU p).us = [u] ∧ (readU p).err = 0 ∧ (readU p).line = 0 ∧ (readU p).col = 0 := by
  have hm := Mid.start p hp
  rw [e] at hm
  obtain ⟨h1, h2⟩ := ((mid_text u h (behind_head j) (hm.ahead i)).behind j).fin1
  exact read_mid u h p hp h1 h2
theorem parse_piece (u : UpD) (h : checkU u = 0) (p : ByteArray) (hp : p.size ≤ 65536) (e : p.data.toList = textU u) : parseU p = (u, 0, 0, 0) := by
  obtain ⟨h1, h2, _, _⟩ := read_piece u h 0 0 p hp (by rw [e]; show _ = [] ++ (textU u ++ []); rw [List.append_nil]; rfl)
  unfold parseU
  rw [h1, h2, if_neg (fun h => h rfl), if_neg (show ¬ [u].length = 0 from Nat.one_ne_zero), if_neg (show ¬ 1 < [u].length from Nat.lt_irrefl 1)]
  rfl
end Go.Proofs.YtlclkeihkkpdbaaGreatDoor
/- Texts of updates, one behind the other (plain). -/
namespace Go.Proofs.YtlclkeihkkpdbaaGreatDoor
open Go.RowKit
theorem linesOf_one (s : ByteArray) (h : ∀ b ∈ s.data.toList, b ≠ 10) : linesOf s = 1 := by
  have h1 := startsTo_skip s.data.toList 0 s.data.toList.length fun j _ hj e => by
    rw [Nat.zero_add] at hj
    rw [List.getD_eq_getElem?_getD, List.getElem?_eq_getElem hj] at e
    exact h _ (List.getElem_mem hj) e
  rw [Nat.zero_add] at h1
  unfold linesOf
  rw [h1]; rfl
theorem more_no10 {l : List UInt8} (h : l.all Nm.more = true) : ∀ b ∈ l, b ≠ 10 := by
  rintro b hb rfl
  rw [List.all_eq_true] at h
  exact absurd (h _ hb) (by decide)
theorem fld_no10 (u : UpD) (x : Fld) (h : GoodF u x) : ∀ b ∈ fldT u x, b ≠ 10 := by
  cases x with
  | word w =>
    have h' : okW w = true := h
    unfold okW at h'
    simp only [Bool.and_eq_true] at h'
    exact more_no10 h'.1.1.2
  | name => exact more_no10 (name_parts h).2.1
  | num off low =>
    refine more_no10 ?_
    have h2 := (num_parts h.1).2.1
    rw [List.all_eq_true] at h2 ⊢
    intro b hb
    have := h2 b hb
    unfold Nm.more
    rw [this]; simp
theorem tail_no10 (u : UpD) : ∀ fs : List Fld, (∀ x ∈ fs, GoodF u x) → (∀ b ∈ Lib.joinTail [32] (fs.map (fldT u)), b ≠ 10) ∧ (Lib.joinTail [32] (fs.map (fldT u))).length ≤ 25 * fs.length := by
  intro fs
  induction fs with
  | nil => intro _; exact ⟨fun b hb => (by cases hb), Nat.le_refl _⟩
  | cons x fs ih =>
    intro hg
    obtain ⟨i1, i2⟩ := ih fun y hy => hg y (List.mem_cons_of_mem _ hy)
    have hx := hg x List.mem_cons_self
    have hl := (tokF_good u x hx).2.2
    rw [List.map_cons, joinTail_cons]
    constructor
    · intro b hb
      rcases List.mem_cons.1 hb with rfl | hb
      · decide
      · rcases List.mem_append.1 hb with hb | hb
        · exact fld_no10 u x hx b hb
        · exact i1 b hb
    · simp only [List.length_cons, List.length_append]
      omega
theorem form_len (k : Int) : (formD k).length ≤ 8 := by
  unfold formD wordsD
  rw [List.length_map]
  (repeat' split) <;> (simp only [List.length_cons, List.length_nil]; omega)
theorem text_facts (u : UpD) (h : checkU u = 0) : (∀ b ∈ textU u, b ≠ 10) ∧ (textU u).length < 200 := by
  have hg := check_form u h
  have hl := form_len u.kind
  obtain ⟨x, xs, hx⟩ := form_cons u.kind
  unfold textU partsU
  rw [hx] at hg hl ⊢
  obtain ⟨i1, i2⟩ := tail_no10 u xs fun y hy => hg y (List.mem_cons_of_mem _ hy)
  have hx := hg x List.mem_cons_self
  have hl1 := (tokF_good u x hx).2.2
  rw [List.map_cons, Lib.join_cons]
  constructor
  · intro b hb
    rcases List.mem_append.1 hb with hb | hb
    · exact fld_no10 u x hx b hb
    · exact i1 b hb
  · rw [List.length_append]
    simp only [List.length_cons] at hl
    omega
theorem readU_ok {s : ByteArray} (h : (readU s).err = 0) : (readU s).line = 0 ∧ (readU s).col = 0 := by
  unfold readU at h ⊢
  split
  · rename_i h1
    rw [if_pos h1] at h
    exact absurd h h1
  · rename_i h1
    rw [if_neg h1] at h
    exact readL_ok _ h
theorem readU_bad {s : ByteArray} (h : (readU s).err ≠ 0) : (readU s).us = [] := by
  unfold readU at h ⊢
  split
  · rfl
  · rename_i h1
    rw [if_neg h1] at h
    exact (readL_bad _ h).1
/-- Lines of updates, and what is behind them. -/
theorem lines_all (P : UpD → List UInt8) (s : ByteArray) : ∀ (us : List UpD), (∀ u ∈ us, ∀ p : ByteArray, p.size ≤ 65536 → p.data.toList = P u → (readU p).us = [u] ∧ (readU p).err = 0) → ∀ y : ByteArray, y.size ≤ 65536 → y.data.toList = (us.flatMap fun u => P u ++ [10]) ++ s.data.toList →
    ((readU s).err = 0 → (readU y).us = us ++ (readU s).us ∧ (readU y).err = 0 ∧ (readU y).line = 0 ∧ (readU y).col = 0) ∧
    ((readU s).err ≠ 0 → (readU y).us = [] ∧ (readU y).err = (readU s).err ∧ (readU y).col = (readU s).col ∧ ((∀ u ∈ us, ∀ b ∈ P u, b ≠ 10) → (readU y).line = (readU s).line + us.length)) := by
  intro us
  induction us with
  | nil =>
    intro _ y _ e
    have : y = s := ByteArray.ext (Array.ext' e)
    subst this
    refine ⟨fun h => ⟨rfl, h, (readU_ok h).1, (readU_ok h).2⟩, fun h => ⟨readU_bad h, rfl, rfl, fun _ => ?_⟩⟩
    simp
  | cons u us ih =>
    intro hP y hz e
    rw [List.flatMap_cons, List.append_assoc, List.append_assoc] at e
    obtain ⟨t, ht⟩ : ∃ t : ByteArray, t.data.toList = (us.flatMap fun u => P u ++ [10]) ++ s.data.toList := ⟨⟨((us.flatMap fun u => P u ++ [10]) ++ s.data.toList).toArray⟩, by simp⟩
    obtain ⟨p, hp⟩ : ∃ p : ByteArray, p.data.toList = P u := ⟨⟨(P u).toArray⟩, by simp⟩
    have hj : Joined p t y := by
      unfold Joined
      rw [e, hp, ht]
      simp
    have hsz := hj.size
    obtain ⟨c1, c2, c3⟩ := change_lines hj hz
    obtain ⟨p1, p2⟩ := hP u List.mem_cons_self p (by omega) hp
    obtain ⟨i1, i2⟩ := ih (fun v hv => hP v (List.mem_cons_of_mem _ hv)) t (by omega) ht
    refine ⟨fun h => ?_, fun h => ?_⟩
    · obtain ⟨a, b, _, _⟩ := i1 h
      obtain ⟨c, d⟩ := c3 p2 b
      rw [c, p1, a]
      exact ⟨rfl, d⟩
    · obtain ⟨a, b, c, d⟩ := i2 h
      obtain ⟨k1, k2, k3, k4⟩ := c2 p2 (by rw [b]; exact h)
      refine ⟨k1, by rw [k2, b], by rw [k3, c], fun hn => ?_⟩
      rw [k4, d (fun v hv => hn v (List.mem_cons_of_mem _ hv)), linesOf_one p (by rw [hp]; exact hn u List.mem_cons_self), List.length_cons]
      omega
/-- The text of ChangeFaults. -/
theorem faults_all (us : List UpD) (hc : ∀ u ∈ us, checkU u = 0) (s y : ByteArray) (hz : y.size ≤ 65536) (e : y.data.toList = (us.flatMap fun u => textU u ++ [10]) ++ s.data.toList) :
    ((readU s).err = 0 → (readU y).us = us ++ (readU s).us ∧ (readU y).err = 0 ∧ (readU y).line = 0 ∧ (readU y).col = 0) ∧
    ((readU s).err ≠ 0 → (readU y).us = [] ∧ (readU y).err = (readU s).err ∧ (readU y).col = (readU s).col ∧ (readU y).line = (readU s).line + us.length) := by
  obtain ⟨h1, h2⟩ := lines_all textU s us (fun u hu p hp ep => by
    obtain ⟨a, b, _, _⟩ := read_piece u (hc u hu) 0 0 p hp (by rw [ep]; show _ = [] ++ (textU u ++ []); rw [List.append_nil]; rfl)
    exact ⟨a, b⟩) y hz e
  refine ⟨h1, fun h => ?_⟩
  obtain ⟨a, b, c, d⟩ := h2 h
  exact ⟨a, b, c, d fun u hu => (text_facts u (hc u hu)).1⟩
theorem read_nil : (readU ⟨#[]⟩).err = 0 ∧ (readU ⟨#[]⟩).us = [] := by decide +kernel
/-- The text of ChangeBack. -/
def pieceU (i j : Nat) (u : UpD) : List UInt8 := aheadB i ++ (textU u ++ behindB j)
theorem back_text (us : List UpD) (hc : ∀ u ∈ us, checkU u = 0) (i j : Nat) (y : ByteArray) (hz : y.size ≤ 65536) (e : y.data.toList = us.flatMap fun u => pieceU i j u ++ [10]) :
    (readU y).us = us ∧ (readU y).err = 0 ∧ (readU y).line = 0 ∧ (readU y).col = 0 := by
  obtain ⟨h1, _⟩ := lines_all (pieceU i j) ⟨#[]⟩ us (fun u hu p hp ep => by
    obtain ⟨a, b, _, _⟩ := read_piece u (hc u hu) i j p hp ep
    exact ⟨a, b⟩) y hz (by rw [e]; show _ = _ ++ []; rw [List.append_nil])
  obtain ⟨a, b⟩ := h1 read_nil.1
  rw [read_nil.2, List.append_nil] at a
  exact ⟨a, b⟩
end Go.Proofs.YtlclkeihkkpdbaaGreatDoor
/- Where faults are told: lines (plain). -/
namespace Go.Proofs.YtlclkeihkkpdbaaGreatDoor
open Go.RowKit
theorem startsTo_len (L : List UInt8) (n : Nat) : 1 ≤ (startsTo L n).length ∧ (startsTo L n).length ≤ n + 1 := by
  unfold startsTo
  rw [List.length_cons, List.length_map]
  have := List.length_filter_le (fun j => L.getD j 0 == 10) (List.range n)
  rw [List.length_range] at this
  omega
theorem step_fl {st : St} {c : Cur} (hi : Inv st c) (h : 0 ≤ c.fl ∧ c.fl ≤ (c.s.size : Int) + 1) : 0 ≤ (stepSt st c).2.fl ∧ (stepSt st c).2.fl ≤ (c.s.size : Int) + 1 := by
  have ok := hi.ok
  have k2 := ok.pos
  have k4 := ok.line
  have hf : ∀ e p, 0 ≤ (c.fail e p).fl ∧ (c.fail e p).fl ≤ (c.s.size : Int) + 1 := fun e p => by show 0 ≤ (c.line : Int) ∧ (c.line : Int) ≤ _; omega
  cases st with
  | none => exact h
  | any => show 0 ≤ (stepAny c).2.fl ∧ (stepAny c).2.fl ≤ _; unfold stepAny; (repeat' split) <;> first | exact h | exact hf _ _
  | end_ =>
    show 0 ≤ (stepEnd c).2.fl ∧ (stepEnd c).2.fl ≤ _
    have hc : c.close.fl = c.fl := by unfold Cur.close; split <;> rfl
    unfold stepEnd
    split
    · show 0 ≤ c.close.fl ∧ c.close.fl ≤ _; rw [hc]; exact h
    · show 0 ≤ c.close.fl ∧ c.close.fl ≤ _; rw [hc]; exact h
  | remark => exact h
  | word => show 0 ≤ (stepWord c).2.fl ∧ (stepWord c).2.fl ≤ _; unfold stepWord; dsimp only; split <;> first | exact hf _ _ | exact h
  | number => show 0 ≤ (stepNumber c).2.fl ∧ (stepNumber c).2.fl ≤ _; unfold stepNumber; dsimp only; (repeat' split) <;> first | exact h | exact hf _ _
theorem runs_fl : ∀ (n : Nat) {st : St} {c : Cur}, (st = .none ∨ Inv st c) → (0 ≤ c.fl ∧ c.fl ≤ (c.s.size : Int) + 1) → 0 ≤ (runs n st c).2.fl ∧ (runs n st c).2.fl ≤ (c.s.size : Int) + 1 := by
  intro n
  induction n with
  | zero => intro st c _ h; exact h
  | succ n ih =>
    intro st c hi h
    by_cases hs : st = .none
    · subst hs; simp only [runs, if_true]; exact h
    · simp only [runs, if_neg hs]
      have hj := hi.resolve_left hs
      have h2 := ih (step_inv hj hs).1 (by rw [stepSt_s]; exact step_fl hj h)
      rw [stepSt_s] at h2
      exact h2
theorem fault_line (s : ByteArray) (hs : s.size ≤ 65536) : 0 ≤ (allD s).2.line ∧ (allD s).2.line ≤ (s.size : Int) + 1 := by
  have h : 0 ≤ (lexed s).fl ∧ (lexed s).fl ≤ (s.size : Int) + 1 := runs_fl _ (.inr (start_inv s hs)) (by show (0 : Int) ≤ 0 ∧ (0 : Int) ≤ (s.size : Int) + 1; omega)
  unfold allD
  rw [if_neg (by omega)]
  split
  · exact h
  · show (0 : Int) ≤ 0 ∧ (0 : Int) ≤ _; omega
theorem tok_lines (s : ByteArray) (hs : s.size ≤ 65536) (he : (allD s).2.err = 0) : ∀ t ∈ (allD s).1, 1 ≤ t.line ∧ t.line ≤ (s.size : Int) + 1 := by
  intro t ht
  obtain ⟨i, hi⟩ := List.mem_iff_getElem?.1 ht
  obtain ⟨⟨ln, cl, og, h1, _, h3, _⟩, _⟩ := ((places s hs).2 he).1 i t hi
  have h4 := (List.getElem?_eq_some_iff.1 h3).1
  have h5 := (startsTo_len s.data.toList s.data.toList.length).2
  rw [Nm.len_size] at h5 h4
  omega
theorem runU_mem : ∀ (fs : List Fld) (l : List TokD) (f : FormU) (x : TokD), (runU fs l f).2 = some x → x ∈ l := by
  intro fs
  induction fs with
  | nil =>
    intro l f x h
    cases l with
    | nil => cases h
    | cons t l =>
      rw [runU] at h
      split at h
      · cases h
      · injection h with h; rw [← h]; exact List.mem_cons_self
  | cons y fs ih =>
    intro l f x h
    cases l with
    | nil => cases h
    | cons t l =>
      rw [runU] at h
      split at h
      · exact List.mem_cons_of_mem _ (ih _ _ _ h)
      · injection h with h; rw [← h]; exact List.mem_cons_self
theorem lineU_line (g : List TokD) : (lineU g).2.2.1 = 0 ∨ ∃ t ∈ g, (lineU g).2.2.1 = t.line := by
  cases g with
  | nil => exact .inl rfl
  | cons t l =>
    unfold lineU
    dsimp only
    split
    · exact .inr ⟨t, List.mem_cons_self, rfl⟩
    · rcases hr : runU (formD (kindU t)) (t :: l) (blankU (kindU t)) with ⟨f, _ | x⟩
      · exact .inl rfl
      · exact .inr ⟨x, runU_mem _ _ _ x (by rw [hr]), rfl⟩
theorem readL_line : ∀ gs : List (List TokD), (readL gs).line = 0 ∨ ∃ g ∈ gs, ∃ t ∈ g, (readL gs).line = t.line := by
  intro gs
  induction gs with
  | nil => exact .inl rfl
  | cons g gs ih =>
    unfold readL
    split
    · rcases lineU_line g with h | ⟨t, ht, h⟩
      · exact .inl h
      · exact .inr ⟨g, List.mem_cons_self, t, ht, h⟩
    · split
      · rcases ih with h | ⟨g', hg, t, ht, h⟩
        · exact .inl h
        · exact .inr ⟨g', List.mem_cons_of_mem _ hg, t, ht, h⟩
      · exact .inl rfl
theorem splitE_mem : ∀ (l acc : List TokD) (g : List TokD), g ∈ splitE acc l → ∀ t ∈ g, t ∈ acc ∨ t ∈ l := by
  intro l
  induction l with
  | nil =>
    intro acc g hg t ht
    unfold splitE at hg
    split at hg
    · cases hg
    · rw [List.mem_singleton] at hg; subst hg; exact .inl ht
  | cons x l ih =>
    intro acc g hg t ht
    rw [splitE] at hg
    split at hg
    · rcases List.mem_cons.1 hg with rfl | hg
      · rcases List.mem_append.1 ht with h | h
        · exact .inl h
        · rw [List.mem_singleton] at h; subst h; exact .inr List.mem_cons_self
      · rcases ih [] g hg t ht with h | h
        · cases h
        · exact .inr (List.mem_cons_of_mem _ h)
    · rcases ih (acc ++ [x]) g hg t ht with h | h
      · rcases List.mem_append.1 h with h | h
        · exact .inl h
        · rw [List.mem_singleton] at h; subst h; exact .inr List.mem_cons_self
      · exact .inr (List.mem_cons_of_mem _ h)
theorem readU_line (s : ByteArray) (hs : s.size ≤ 65536) : 0 ≤ (readU s).line ∧ (readU s).line ≤ 65537 := by
  have hf := fault_line s hs
  unfold readU
  split
  · show 0 ≤ (allD s).2.line ∧ (allD s).2.line ≤ 65537
    omega
  · rename_i he
    rcases readL_line (splitE [] (allD s).1) with h | ⟨g, hg, t, ht, h⟩
    · rw [h]; omega
    · rw [h]
      rcases splitE_mem _ [] g hg t ht with h1 | h1
      · cases h1
      · have := tok_lines s hs (Decidable.not_not.1 he) t h1
        omega
/-- The updates among l that may be, and their lines. -/
def upsU (l : List UpD) : List UpD := l.filter fun u => decide (checkU u = 0)
def aheadF (l : List UpD) : List UInt8 := (upsU l).flatMap fun u => textU u ++ [10]
theorem upsU_ok (l : List UpD) : ∀ u ∈ upsU l, checkU u = 0 := fun u hu => by simpa using (List.mem_filter.1 hu).2
theorem upsU_le (l : List UpD) : (upsU l).length ≤ l.length := List.length_filter_le _ _
theorem upsU_yes (l : List UpD) (j : Nat) (h : j < l.length) (hc : checkU l[j] = 0) : upsU (l.take (j + 1)) = upsU (l.take j) ++ [l[j]] := by
  unfold upsU
  rw [List.take_add_one, List.getElem?_eq_getElem h, List.filter_append]
  simp [hc]
theorem upsU_no (l : List UpD) (j : Nat) (h : j < l.length) (hc : checkU l[j] ≠ 0) : upsU (l.take (j + 1)) = upsU (l.take j) := by
  unfold upsU
  rw [List.take_add_one, List.getElem?_eq_getElem h, List.filter_append]
  simp [hc]
theorem aheadF_yes (l : List UpD) (j : Nat) (h : j < l.length) (hc : checkU l[j] = 0) : aheadF (l.take (j + 1)) = aheadF (l.take j) ++ (textU l[j] ++ [10]) := by
  unfold aheadF
  rw [upsU_yes l j h hc, List.flatMap_append]
  simp
theorem aheadF_no (l : List UpD) (j : Nat) (h : j < l.length) (hc : checkU l[j] ≠ 0) : aheadF (l.take (j + 1)) = aheadF (l.take j) := by
  unfold aheadF
  rw [upsU_no l j h hc]
theorem flat_le (f : UpD → List UInt8) (B : Nat) : ∀ l : List UpD, (∀ u ∈ l, (f u).length ≤ B) → (l.flatMap f).length ≤ B * l.length := by
  intro l
  induction l with
  | nil => intro _; exact Nat.le_refl _
  | cons u l ih =>
    intro h
    have h1 := h u List.mem_cons_self
    have h2 := ih fun v hv => h v (List.mem_cons_of_mem _ hv)
    rw [List.flatMap_cons, List.length_append, List.length_cons, Nat.mul_succ]
    omega
theorem aheadF_len (l : List UpD) : (aheadF l).length ≤ 200 * l.length := by
  have h := flat_le (fun u => textU u ++ [10]) 200 (upsU l) fun u hu => by
    have := (text_facts u (upsU_ok l u hu)).2
    rw [List.length_append, List.length_singleton]
    omega
  have := upsU_le l
  unfold aheadF
  omega
end Go.Proofs.YtlclkeihkkpdbaaGreatDoor
