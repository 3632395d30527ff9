/- Tokens put with blanks and remarks between are cut as they were (plain). -/
import Derived.Test.YtlclkeihkkpdbaaGreatDoorLr
namespace Go.Proofs.YtlclkeihkkpdbaaGreatDoor
open Go.RowKit
/-- What a token tells but its place. -/
def key (t : TokD) : Int × List UInt8 × Int := (t.kind, t.text, t.num)
def endK : Int × List UInt8 × Int := (4, [], 0)
/-- What a token of the machine is. -/
def GoodT (t : TokD) : Prop :=
  (t.kind = 4 ∧ t.text = [] ∧ t.num = 0) ∨
  (t.kind = (if Nm.res t.text = true then 2 else 1) ∧ t.num = 0 ∧ (∃ b r, t.text = b :: r ∧ Nm.cls b = 1) ∧ t.text.all Nm.more = true ∧ t.text.length ≤ 24) ∨
  (t.kind = 3 ∧ t.num = Tk.parseV t.text ∧ (∃ b r, t.text = b :: r ∧ Nm.cls b = 2) ∧ t.text.all Nm.dig = true ∧ Tk.parseE t.text = 0)
theorem take_pre_all (p : UInt8 → Bool) (l : List UInt8) : (l.take (Nm.pre p l)).all p = true := by
  unfold Nm.pre
  induction l with
  | nil => rfl
  | cons a l ih =>
    rw [List.takeWhile_cons]
    rcases ha : p a
    · rfl
    · simp only [if_true, List.length_cons, List.take_succ_cons, List.all_cons, ha, Bool.true_and]
      exact ih
theorem pre_all (p : UInt8 → Bool) (x R : List UInt8) (hx : x.all p = true) (hR : ∀ b r, R = b :: r → p b = false) : Nm.pre p (x ++ R) = x.length := by
  unfold Nm.pre
  induction x with
  | nil =>
    cases R with
    | nil => rfl
    | cons b r => rw [List.nil_append, List.takeWhile_cons, hR b r rfl]; rfl
  | cons a x ih =>
    rw [List.all_cons, Bool.and_eq_true] at hx
    rw [List.cons_append, List.takeWhile_cons, hx.1]
    simp only [if_true, List.length_cons]
    rw [ih hx.2]
theorem rest_cons {c : Cur} {b : UInt8} {R : List UInt8} (h : c.rest = b :: R) : c.pos < c.s.size ∧ c.byte = b ∧ c.s.data.toList.drop (c.pos + 1) = R := by
  have hlt : c.pos < c.s.size := by
    have h1 : c.rest.length = c.s.size - c.pos := by unfold Cur.rest; rw [List.length_drop, Nm.len_size]
    rw [h, List.length_cons] at h1
    omega
  have h2 := rest_head c hlt
  rw [h] at h2
  injection h2 with h3 h4
  exact ⟨hlt, h3.symm, h4.symm⟩
theorem rest_nil {c : Cur} (ok : c.Ok) (h : c.rest = []) : c.pos = c.s.size := by
  have h1 : c.rest.length = c.s.size - c.pos := by unfold Cur.rest; rw [List.length_drop, Nm.len_size]
  rw [h, List.length_nil] at h1
  have := ok.pos
  omega
theorem drop_at {c : Cur} {x R : List UInt8} (h : c.rest = x ++ R) : c.s.data.toList.drop (c.pos + x.length) = R := by
  rw [← List.drop_drop]
  show c.rest.drop x.length = R
  rw [h, List.drop_left]
/-- On the way to F: what is left, what has been put. -/
def Mid (F : Cur) (R : List UInt8) (ks : List (Int × List UInt8 × Int)) (sm : Bool) : Prop :=
  ∃ c, final .any c = F ∧ Inv .any c ∧ c.rest = R ∧ c.out.map key = ks ∧ c.some = sm ∧ c.err = 0
theorem Mid.start (u : ByteArray) (h : u.size ≤ 65536) : Mid (lexed u) u.data.toList [] false := ⟨Cur.start u, rfl, start_inv u h, rfl, rfl, rfl, rfl⟩
variable {F : Cur} {R : List UInt8} {ks : List (Int × List UInt8 × Int)} {sm : Bool}
theorem Mid.blank {b : UInt8} (hb : b = 32 ∨ b = 9) (h : Mid F (b :: R) ks sm) : Mid F R ks sm := by
  obtain ⟨c, h1, h2, h3, h4, h5, h6⟩ := h
  obtain ⟨r1, r2, r3⟩ := rest_cons h3
  have hst : stepSt .any c = (.any, { c with pos := c.pos + 1 }) := by
    show stepAny c = _
    unfold stepAny
    rw [r2, if_neg (by rintro (h | h); · omega
                       · rcases hb with rfl | rfl <;> cases h), if_neg (by rcases hb with rfl | rfl <;> decide), if_pos hb]
  rw [final_step h2 St.noConfusion, hst] at h1
  have h7 := (step_inv h2 St.noConfusion).1
  rw [hst] at h7
  exact ⟨_, h1, h7.resolve_left St.noConfusion, r3, h4, h5, h6⟩
theorem Mid.blanks : ∀ {g : List UInt8}, (∀ b ∈ g, b = 32 ∨ b = 9) → Mid F (g ++ R) ks sm → Mid F R ks sm := by
  intro g
  induction g with
  | nil => intro _ h; exact h
  | cons b g ih => intro hb h; exact ih (fun x hx => hb x (List.mem_cons_of_mem _ hx)) (Mid.blank (hb b List.mem_cons_self) h)
theorem Mid.tok {t : TokD} (ht : GoodT t) (h4 : t.kind ≠ 4) (hR : ∀ b r, R = b :: r → Nm.cls b = 0) (h : Mid F (t.text ++ R) ks sm) : Mid F R (ks ++ [key t]) true := by
  obtain ⟨c, h1, h2, h3, k4, k5, k6⟩ := h
  rcases ht with ht | ⟨t1, t2, ⟨b, r, t3, t4⟩, t5, t6⟩ | ⟨t1, t2, ⟨b, r, t3, t4⟩, t5, t6⟩
  · exact absurd ht.1 h4
  · have hrr : c.rest = b :: (r ++ R) := by rw [h3, t3]; rfl
    obtain ⟨r1, r2, r3⟩ := rest_cons hrr
    have hpre : Nm.pre Nm.more c.rest = t.text.length := by
      rw [h3]
      exact pre_all _ _ _ t5 fun b r e => by rw [← Nm.cls_more, hR b r e]; rfl
    have hst : stepSt .any c = (.word, c) := by
      show stepAny c = _
      unfold stepAny
      rw [r2, if_neg (by rintro (h | rfl); · omega
                         · exact absurd t4 (by decide)), if_neg (by rintro rfl; exact absurd t4 (by decide)), if_neg (by rintro (rfl | rfl) <;> exact absurd t4 (by decide)), if_pos t4]
    rw [final_step h2 St.noConfusion, hst] at h1
    have h7 := (step_inv h2 St.noConfusion).1
    rw [hst] at h7
    have h8 := h7.resolve_left St.noConfusion
    have hst2 : stepSt .word c = (.any, c.put t.kind t.text 0 t.text.length) := by
      show stepWord c = _
      unfold stepWord
      rw [hpre]
      dsimp only
      rw [if_neg (by omega), h3, List.take_left, ← t1]
    rw [final_step h8 St.noConfusion, hst2] at h1
    have h9 := (step_inv h8 St.noConfusion).1
    rw [hst2] at h9
    refine ⟨_, h1, h9.resolve_left St.noConfusion, drop_at h3, ?_, rfl, k6⟩
    show (c.out ++ [_]).map key = _
    rw [List.map_append, k4]
    unfold key
    rw [t2]
    rfl
  · have hrr : c.rest = b :: (r ++ R) := by rw [h3, t3]; rfl
    obtain ⟨r1, r2, r3⟩ := rest_cons hrr
    have hpre : Nm.pre Nm.dig c.rest = t.text.length := by
      rw [h3]
      exact pre_all _ _ _ t5 fun b r e => by rw [← Nm.cls_dig, hR b r e]; rfl
    have hst : stepSt .any c = (.number, c) := by
      show stepAny c = _
      unfold stepAny
      rw [r2, if_neg (by rintro (h | rfl); · omega
                         · exact absurd t4 (by decide)), if_neg (by rintro rfl; exact absurd t4 (by decide)), if_neg (by rintro (rfl | rfl) <;> exact absurd t4 (by decide)), if_neg (by rw [t4]; decide), if_pos t4]
    rw [final_step h2 St.noConfusion, hst] at h1
    have h7 := (step_inv h2 St.noConfusion).1
    rw [hst] at h7
    have h8 := h7.resolve_left St.noConfusion
    have hst2 : stepSt .number c = (.any, c.put 3 t.text t.num t.text.length) := by
      show stepNumber c = _
      unfold stepNumber
      rw [hpre]
      dsimp only
      have hno : ¬ (t.text.length < (t.text ++ R).length ∧ Nm.cls ((t.text ++ R).getD t.text.length 0) ≠ 0) := by
        rintro ⟨hl, hc⟩
        cases R with
        | nil => rw [List.append_nil] at hl; omega
        | cons b' r' =>
          rw [List.getD_eq_getElem?_getD, List.getElem?_append_right (Nat.le_refl _), Nat.sub_self] at hc
          exact hc (hR b' r' rfl)
      rw [h3, List.take_left, t6, if_neg (by decide), if_neg (by decide), if_neg hno, t2]
    rw [final_step h8 St.noConfusion, hst2] at h1
    have h9 := (step_inv h8 St.noConfusion).1
    rw [hst2] at h9
    refine ⟨_, h1, h9.resolve_left St.noConfusion, drop_at h3, ?_, rfl, k6⟩
    show (c.out ++ [_]).map key = _
    rw [List.map_append, k4]
    unfold key
    rw [t1]
    rfl
theorem Mid.line (h : Mid F (10 :: R) ks sm) : Mid F R (if sm = true then ks ++ [endK] else ks) false := by
  obtain ⟨c, h1, h2, h3, h4, h5, h6⟩ := h
  obtain ⟨r1, r2, r3⟩ := rest_cons h3
  have hst : stepSt .any c = (.end_, c) := by
    show stepAny c = _
    unfold stepAny
    rw [if_pos (.inr r2)]
  rw [final_step h2 St.noConfusion, hst] at h1
  have h7 := (step_inv h2 St.noConfusion).1
  rw [hst] at h7
  have h8 := h7.resolve_left St.noConfusion
  have hst2 : stepSt .end_ c = (.any, c.close.down) := by
    show stepEnd c = _
    unfold stepEnd
    rw [if_neg (by omega)]
  rw [final_step h8 St.noConfusion, hst2] at h1
  have h9 := (step_inv h8 St.noConfusion).1
  rw [hst2] at h9
  have hp : c.close.pos = c.pos ∧ c.close.s = c.s ∧ c.close.err = c.err ∧ c.close.out.map key = if c.some = true then ks ++ [endK] else ks := by
    unfold Cur.close
    by_cases hs : c.some = true
    · rw [if_pos hs, if_pos hs]
      refine ⟨Nat.add_zero _, rfl, rfl, ?_⟩
      show (c.out ++ [_]).map key = _
      rw [List.map_append, h4]
      rfl
    · rw [if_neg hs, if_neg hs]
      exact ⟨rfl, rfl, rfl, h4⟩
  refine ⟨_, h1, h9.resolve_left St.noConfusion, ?_, ?_, rfl, ?_⟩
  · show c.close.s.data.toList.drop (c.close.pos + 1) = R
    rw [hp.1, hp.2.1, r3]
  · show c.close.out.map key = _
    rw [hp.2.2.2, h5]
  · show c.close.err = 0
    rw [hp.2.2.1, h6]
theorem Mid.remark {m : List UInt8} (hm : ∀ b ∈ m, b ≠ 10) (h : Mid F (35 :: (m ++ 10 :: R)) ks sm) : Mid F (10 :: R) ks sm := by
  obtain ⟨c, h1, h2, h3, h4, h5, h6⟩ := h
  obtain ⟨r1, r2, r3⟩ := rest_cons h3
  have hst : stepSt .any c = (.remark, c) := by
    show stepAny c = _
    unfold stepAny
    rw [r2, if_neg (by rintro (h | h); · omega
                       · cases h), if_pos rfl]
  rw [final_step h2 St.noConfusion, hst] at h1
  have h7 := (step_inv h2 St.noConfusion).1
  rw [hst] at h7
  have h8 := h7.resolve_left St.noConfusion
  have he : c.eol = c.pos + (35 :: m).length := by
    show c.pos + Nm.pre (fun b => b != 10) c.rest = _
    rw [h3, show (35 : UInt8) :: (m ++ 10 :: R) = (35 :: m) ++ 10 :: R from rfl, pre_all (fun b => b != 10) (35 :: m) (10 :: R)]
    · rw [List.all_eq_true]
      intro x hx
      rcases List.mem_cons.1 hx with rfl | hx
      · rfl
      · simpa using hm x hx
    · rintro b r e
      injection e with e _
      subst e
      rfl
  have hst2 : stepSt .remark c = (.any, { c with pos := c.eol }) := rfl
  rw [final_step h8 St.noConfusion, hst2] at h1
  have h9 := (step_inv h8 St.noConfusion).1
  rw [hst2] at h9
  refine ⟨_, h1, h9.resolve_left St.noConfusion, ?_, h4, h5, h6⟩
  show c.s.data.toList.drop c.eol = _
  rw [he]
  exact drop_at (x := 35 :: m) h3
theorem Mid.fin (h : Mid F [] ks false) : F.out.map key = ks ∧ F.err = 0 := by
  obtain ⟨c, h1, h2, h3, h4, h5, h6⟩ := h
  have hp := rest_nil h2.ok h3
  have hst : stepSt .any c = (.end_, c) := by
    show stepAny c = _
    unfold stepAny
    rw [if_pos (.inl hp)]
  rw [final_step h2 St.noConfusion, hst] at h1
  have h7 := (step_inv h2 St.noConfusion).1
  rw [hst] at h7
  have h8 := h7.resolve_left St.noConfusion
  have hst2 : stepSt .end_ c = (.none, c) := by
    show stepEnd c = _
    unfold stepEnd Cur.close
    rw [if_pos hp, if_neg (by rw [h5]; decide)]
  rw [final_step h8 St.noConfusion, hst2, final_none] at h1
  subst h1
  exact ⟨h4, h6⟩
/-- The tokens of the machine are good. -/
theorem good_step {st : St} {c : Cur} (hi : Inv st c) (h : ∀ t ∈ c.out, GoodT t) : ∀ t ∈ (stepSt st c).2.out, GoodT t := by
  have ok := hi.ok
  have snoc : ∀ x, GoodT x → ∀ t ∈ c.out ++ [x], GoodT t := fun x hx t ht => by
    rcases List.mem_append.1 ht with ht | ht
    · exact h t ht
    · rw [List.mem_singleton] at ht; subst ht; exact hx
  cases st with
  | none => exact h
  | any => show ∀ t ∈ (stepAny c).2.out, _; unfold stepAny; (repeat' split) <;> exact h
  | end_ =>
    have hc : ∀ t ∈ c.close.out, GoodT t := by
      unfold Cur.close
      split
      · exact snoc _ (.inl ⟨rfl, rfl, rfl⟩)
      · exact h
    show ∀ t ∈ (stepEnd c).2.out, _
    unfold stepEnd
    split
    · exact hc
    · exact hc
  | remark => exact h
  | word =>
    obtain ⟨hlt, hb⟩ := hi.word rfl
    have hn : 1 ≤ Nm.pre Nm.more c.rest := by rw [rest_head c hlt]; exact pre_pos _ _ _ (cls_one hb)
    show ∀ t ∈ (stepWord c).2.out, _
    unfold stepWord
    dsimp only
    split
    · exact h
    · rename_i h24
      refine snoc _ (.inr (.inl ⟨rfl, rfl, ?_, take_pre_all _ _, ?_⟩))
      · obtain ⟨k, hk⟩ : ∃ k, Nm.pre Nm.more c.rest = k + 1 := ⟨Nm.pre Nm.more c.rest - 1, by omega⟩
        refine ⟨c.byte, (c.s.data.toList.drop (c.pos + 1)).take k, ?_, hb⟩
        show c.rest.take _ = _
        rw [hk, rest_head c hlt, List.take_succ_cons]
      · show (c.rest.take _).length ≤ 24
        rw [List.length_take]; omega
  | number =>
    obtain ⟨hlt, hb⟩ := hi.number rfl
    have hn : 1 ≤ Nm.pre Nm.dig c.rest := by rw [rest_head c hlt]; exact pre_pos _ _ _ (cls_two hb)
    show ∀ t ∈ (stepNumber c).2.out, _
    unfold stepNumber
    dsimp only
    split
    · exact h
    · split
      · exact h
      · rename_i h0
        split
        · exact h
        · refine snoc _ (.inr (.inr ⟨rfl, rfl, ?_, take_pre_all _ _, Decidable.not_not.1 h0⟩))
          obtain ⟨k, hk⟩ : ∃ k, Nm.pre Nm.dig c.rest = k + 1 := ⟨Nm.pre Nm.dig c.rest - 1, by omega⟩
          refine ⟨c.byte, (c.s.data.toList.drop (c.pos + 1)).take k, ?_, hb⟩
          show c.rest.take _ = _
          rw [hk, rest_head c hlt, List.take_succ_cons]
theorem good_runs : ∀ (n : Nat) {st : St} {c : Cur}, (st = .none ∨ Inv st c) → (∀ t ∈ c.out, GoodT t) → ∀ t ∈ (runs n st c).2.out, GoodT t := by
  intro n
  induction n with
  | zero => intro st c _ h; exact h
  | succ n ih =>
    intro st c hi h
    by_cases hs : st = .none
    · subst hs; simp only [runs, if_true]; exact h
    · simp only [runs, if_neg hs]
      have hj := hi.resolve_left hs
      exact ih (step_inv hj hs).1 (good_step hj h)
theorem good_all (s : ByteArray) : ∀ t ∈ (allD s).1, GoodT t := by
  unfold allD
  split
  · intro t ht; cases ht
  · rename_i hs
    split
    · intro t ht; cases ht
    · exact good_runs _ (.inr (start_inv s (by omega))) (fun t ht => by cases ht)
/-- Lines end behind something. -/
def Order : Bool → List TokD → Prop
  | sm, [] => sm = false
  | sm, t :: l => (t.kind = 4 → sm = true) ∧ Order (decide (t.kind ≠ 4)) l
theorem order_of {L : List UInt8} : ∀ (l m : List TokD), Pl L (m ++ l) → (∀ t, (m ++ l).getLast? = some t → t.kind = 4) → Order (match m.getLast? with | none => false | some p => decide (p.kind ≠ 4)) l := by
  intro l
  induction l with
  | nil =>
    intro m _ hl
    rw [List.append_nil] at hl
    show _ = false
    rcases hm : m.getLast? with _ | p
    · rfl
    · have := hl p hm
      simp [this]
  | cons t l ih =>
    intro m hp hl
    have hpt := hp m.length t (by rw [List.getElem?_append_right (Nat.le_refl _), Nat.sub_self]; rfl)
    refine ⟨fun h4 => ?_, ?_⟩
    · rcases hm : m.getLast? with _ | p
      · have : m = [] := List.getLast?_eq_none_iff.1 hm
        subst this
        exact absurd h4 (hpt.2.1 rfl)
      · have hml : 0 < m.length := by
          cases m with
          | nil => cases hm
          | cons a m => exact Nat.succ_pos _
        have := hpt.2.2 p hml (by rw [List.getElem?_append_left (by omega), ← List.getLast?_eq_getElem?]; exact hm)
        exact decide_eq_true (this.2.1 h4).1
    · have h2 := ih (m ++ [t]) (by rw [List.append_assoc]; exact hp) (by rw [List.append_assoc]; exact hl)
      rw [List.getLast?_concat] at h2
      exact h2
theorem order_all (s : ByteArray) (hs : s.size ≤ 65536) (he : (allD s).2.err = 0) : Order false (allD s).1 := by
  obtain ⟨h1, h2⟩ := (places s hs).2 he
  exact order_of (allD s).1 [] h1 h2
/-- The end's text in the law. -/
def remT : List UInt8 := [35, 32, 120, 32, 48, 48, 55, 32, 65, 10, 10]
def piece (g : List UInt8) (t : TokD) : List UInt8 := g ++ if t.kind = 4 then remT else t.text
def pieces : List (List UInt8) → List TokD → List UInt8
  | g :: gs, t :: l => piece g t ++ pieces gs l
  | _, _ => []
def IsGap (g : List UInt8) : Prop := (∃ r, g = 32 :: r) ∧ ∀ b ∈ g, b = 32 ∨ b = 9
theorem pieces_head : ∀ (gs : List (List UInt8)) (l : List TokD), (∀ g ∈ gs, IsGap g) → ∀ b r, pieces gs l = b :: r → Nm.cls b = 0 := by
  intro gs l hg b r h
  cases gs with
  | nil => cases h
  | cons g gs =>
    cases l with
    | nil => cases h
    | cons t l =>
      obtain ⟨⟨x, hx⟩, _⟩ := hg g List.mem_cons_self
      unfold pieces piece at h
      rw [hx] at h
      injection h with h _
      rw [← h]; rfl
theorem relex : ∀ (l : List TokD) (gs : List (List UInt8)) (ks : List (Int × List UInt8 × Int)) (sm : Bool), gs.length = l.length → (∀ g ∈ gs, IsGap g) → (∀ t ∈ l, GoodT t) → Order sm l → Mid F (pieces gs l) ks sm → F.out.map key = ks ++ l.map key ∧ F.err = 0 := by
  intro l
  induction l with
  | nil =>
    intro gs ks sm hl _ _ ho h
    have hgs : gs = [] := List.eq_nil_of_length_eq_zero hl
    subst hgs
    obtain rfl : sm = false := ho
    rw [List.map_nil, List.append_nil]
    exact h.fin
  | cons t l ih =>
    intro gs ks sm hl hg ht ho h
    cases gs with
    | nil => cases hl
    | cons g gs =>
      obtain ⟨o1, o2⟩ := ho
      have hg2 : ∀ x ∈ gs, IsGap x := fun x hx => hg x (List.mem_cons_of_mem _ hx)
      have ht2 : ∀ x ∈ l, GoodT x := fun x hx => ht x (List.mem_cons_of_mem _ hx)
      have hl2 : gs.length = l.length := by simpa using hl
      have hgt := ht t List.mem_cons_self
      unfold pieces piece at h
      rw [List.append_assoc] at h
      have h1 := Mid.blanks (hg g List.mem_cons_self).2 h
      rw [List.map_cons, ← List.singleton_append, ← List.append_assoc]
      by_cases h4 : t.kind = 4
      · rw [if_pos h4] at h1
        obtain rfl := o1 h4
        have h2 : Mid F (10 :: (10 :: pieces gs l)) ks true := Mid.remark (m := [32, 120, 32, 48, 48, 55, 32, 65]) (by decide) h1
        have h3 := (h2.line).line
        rw [if_pos rfl, if_neg (by decide)] at h3
        have hk : key t = endK := by
          rcases hgt with hgt | hgt | hgt
          · unfold key; rw [hgt.1, hgt.2.1, hgt.2.2]; rfl
          · have := hgt.1; rw [h4] at this; split at this <;> cases this
          · have := hgt.1; rw [h4] at this; cases this
        rw [hk]
        refine ih gs _ false hl2 hg2 ht2 ?_ h3
        have : decide (t.kind ≠ 4) = false := decide_eq_false fun h => h h4
        rw [this] at o2
        exact o2
      · rw [if_neg h4] at h1
        have h2 := h1.tok hgt h4 (pieces_head gs l hg2)
        refine ih gs _ true hl2 hg2 ht2 ?_ h2
        have : decide (t.kind ≠ 4) = true := decide_eq_true h4
        rw [this] at o2
        exact o2
/-- Tokens with gaps between, remarks at lines' ends, are cut as the like. -/
theorem blanks_all (s u : ByteArray) (hs : s.size ≤ 65536) (hz : u.size ≤ 65536) (he : (allD s).2.err = 0) (gs : List (List UInt8)) (hl : gs.length = (allD s).1.length) (hg : ∀ g ∈ gs, IsGap g) (hu : u.data.toList = pieces gs (allD s).1) :
    (allD u).2 = ⟨0, 0, 0⟩ ∧ (allD u).1.map key = (allD s).1.map key := by
  have hm := Mid.start u hz
  rw [hu] at hm
  obtain ⟨h1, h2⟩ := relex (allD s).1 gs [] false hl hg (good_all s) (order_all s hs he) hm
  have e : allD u = ((lexed u).out, ⟨0, 0, 0⟩) := by
    unfold allD
    rw [if_neg (by omega), if_neg (fun h => h h2)]
  rw [e]
  exact ⟨rfl, by rw [h1]; rfl⟩
end Go.Proofs.YtlclkeihkkpdbaaGreatDoor
