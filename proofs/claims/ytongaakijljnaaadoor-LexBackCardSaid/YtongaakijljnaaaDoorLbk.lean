/- The tokens' text is cut as the tokens, and no longer than thrice the text (plain). -/
import Derived.Test.YtongaakijljnaaaDoorLrl
import Derived.Test.YtongaakijljnaaaDoorLtx
import Derived.Test.YtongaakijljnaaaDoorTq
namespace Go.Proofs.YtongaakijljnaaaDoor
open Go.RowKit
/-- How long the tokens' texts are. -/
def sumT : List TokD → Nat
  | [] => 0
  | t :: l => t.text.length + sumT l
theorem sumT_app (l m : List TokD) : sumT (l ++ m) = sumT l + sumT m := by
  induction l with
  | nil => simp [sumT]
  | cons t l ih => simp only [List.cons_append, sumT, ih]; omega
theorem sum_put {c : Cur} (h : sumT c.out ≤ c.pos) (k : Int) (x : List UInt8) (v : Int) (n : Nat) (hx : x.length ≤ n) : sumT (c.put k x v n).out ≤ (c.put k x v n).pos := by
  show sumT (c.out ++ [_]) ≤ c.pos + n
  rw [sumT_app]
  show sumT c.out + (x.length + 0) ≤ _
  omega
theorem sum_step {st : St} {c : Cur} (h : sumT c.out ≤ c.pos) : sumT (stepSt st c).2.out ≤ (stepSt st c).2.pos := by
  have hclose : sumT c.close.out ≤ c.close.pos := by
    unfold Cur.close
    split
    · exact sum_put h _ _ _ _ (Nat.le_refl _)
    · exact h
  cases st with
  | none => exact h
  | any =>
    show sumT (stepAny c).2.out ≤ (stepAny c).2.pos
    unfold stepAny
    (repeat' split) <;> first | exact h | exact Nat.le_succ_of_le h
  | end_ =>
    show sumT (stepEnd c).2.out ≤ (stepEnd c).2.pos
    unfold stepEnd
    split
    · exact hclose
    · exact Nat.le_succ_of_le hclose
  | remark => exact Nat.le_trans h (Nat.le_add_right _ _)
  | word =>
    show sumT (stepWord c).2.out ≤ (stepWord c).2.pos
    unfold stepWord
    dsimp only
    split
    · exact h
    · exact sum_put h _ _ _ _ (by rw [List.length_take]; exact Nat.min_le_left _ _)
  | number =>
    show sumT (stepNumber c).2.out ≤ (stepNumber c).2.pos
    unfold stepNumber
    dsimp only
    (repeat' split) <;> first | exact h | exact sum_put h _ _ _ _ (by rw [List.length_take]; exact Nat.min_le_left _ _)
theorem sum_runs : ∀ (n : Nat) {st : St} {c : Cur}, sumT c.out ≤ c.pos → sumT (runs n st c).2.out ≤ (runs n st c).2.pos := by
  intro n
  induction n with
  | zero => intro st c h; exact h
  | succ n ih =>
    intro st c h
    by_cases hs : st = .none
    · subst hs; simp only [runs, if_true]; exact h
    · simp only [runs, if_neg hs]
      exact ih (sum_step h)
theorem inv_runs : ∀ (n : Nat) {st : St} {c : Cur}, (st = .none ∨ Inv st c) → c.pos ≤ c.s.size → (runs n st c).2.pos ≤ (runs n st c).2.s.size := by
  intro n
  induction n with
  | zero => intro st c _ h; exact h
  | succ n ih =>
    intro st c hi h
    by_cases hs : st = .none
    · subst hs; simp only [runs, if_true]; exact h
    · simp only [runs, if_neg hs]
      have hj := hi.resolve_left hs
      refine ih (step_inv hj hs).1 ?_
      rcases (step_inv hj hs).1 with h2 | h2
      · have hp := hj.ok.pos
        revert h2
        cases st with
        | none => exact fun _ => hp
        | any =>
          show (stepAny c).1 = _ → (stepAny c).2.pos ≤ (stepAny c).2.s.size
          unfold stepAny
          (repeat' split) <;> first | exact fun _ => hp | exact fun e => St.noConfusion e
        | end_ =>
          have hc : c.close.pos = c.pos ∧ c.close.s = c.s := by unfold Cur.close; split <;> exact ⟨rfl, rfl⟩
          show (stepEnd c).1 = _ → (stepEnd c).2.pos ≤ (stepEnd c).2.s.size
          unfold stepEnd
          split
          · intro _; show c.close.pos ≤ c.close.s.size; rw [hc.1, hc.2]; exact hp
          · exact fun e => St.noConfusion e
        | remark => exact fun e => St.noConfusion e
        | word =>
          show (stepWord c).1 = _ → (stepWord c).2.pos ≤ (stepWord c).2.s.size
          unfold stepWord
          dsimp only
          split <;> first | exact fun _ => hp | exact fun e => St.noConfusion e
        | number =>
          show (stepNumber c).1 = _ → (stepNumber c).2.pos ≤ (stepNumber c).2.s.size
          unfold stepNumber
          dsimp only
          (repeat' split) <;> first | exact fun _ => hp | exact fun e => St.noConfusion e
      · exact h2.ok.pos
theorem sum_all (s : ByteArray) : sumT (allD s).1 ≤ s.size := by
  unfold allD
  split
  · exact Nat.zero_le _
  · rename_i hs
    split
    · exact Nat.zero_le _
    · refine Nat.le_trans (sum_runs _ (Nat.le_refl 0)) ?_
      have := inv_runs (2 * s.size + 2) (.inr (start_inv s (by omega))) (Nat.zero_le _)
      rwa [(at_runs (2 * s.size + 2) (st := .any) (c := Cur.start s) (by show 2 * (s.size - 0) + 2 ≤ _; omega) (.inr ⟨St.noConfusion, start_inv s (by omega), at_start s⟩)).2] at this
/-- A number's digits are its text. -/
theorem good_body {t : TokD} (h : GoodT t) : bodyT t = t.text := by
  unfold bodyT
  split
  · rename_i h3
    rcases h with h | h | ⟨_, h2, ⟨b, r, hb, hc⟩, hd, he⟩
    · rw [h.1] at h3; cases h3
    · have := h.1; rw [h3] at this; split at this <;> cases this
    · have h0 : t.text ≠ Tk.infB := by
        intro e; rw [e] at hb; injection hb with hb _; rw [← hb] at hc; revert hc; decide
      rcases Tk.text_parse t.text with h | ⟨_, h5, h6⟩
      · exact absurd he h.1
      · rw [← h2] at h5 h6
        unfold Tk.textB at h6
        by_cases hi : t.num = 4611686018427387904
        · rw [if_pos hi] at h6; exact absurd h6.symm h0
        · rw [if_neg hi, if_pos h5] at h6; exact h6
  · rfl
theorem textF_len : ∀ (l : List TokD) (f : Bool), (∀ t ∈ l, GoodT t) → (textF f l).length ≤ sumT l + l.length := by
  intro l
  induction l with
  | nil => intro f _; exact Nat.le_refl _
  | cons t l ih =>
    intro f hg
    have h1 := ih true fun x hx => hg x (List.mem_cons_of_mem _ hx)
    have h2 := ih false fun x hx => hg x (List.mem_cons_of_mem _ hx)
    unfold textF sumT
    split
    · simp only [List.length_cons]; omega
    · rw [good_body (hg t List.mem_cons_self)]
      simp only [List.length_append, List.length_cons]
      split <;> simp <;> omega
theorem textF_head (l : List TokD) (h : Order true l) : ∀ b r, textF false l = b :: r → Nm.cls b = 0 := by
  intro b r hb
  cases l with
  | nil => cases h
  | cons t l =>
    unfold textF at hb
    split at hb
    · injection hb with hb _; rw [← hb]; rfl
    · simp at hb; rw [← hb.1]; rfl
theorem relexT {F : Cur} : ∀ (l : List TokD) (ks : List (Int × List UInt8 × Int)) (sm : Bool), (∀ t ∈ l, GoodT t) → Order sm l → Mid F (textF (!sm) l) ks sm → F.out.map key = ks ++ l.map key ∧ F.err = 0 := by
  intro l
  induction l with
  | nil =>
    intro ks sm _ ho h
    obtain rfl : sm = false := ho
    rw [List.map_nil, List.append_nil]
    exact h.fin
  | cons t l ih =>
    intro ks sm ht ho h
    obtain ⟨o1, o2⟩ := ho
    have ht2 : ∀ x ∈ l, GoodT x := fun x hx => ht x (List.mem_cons_of_mem _ hx)
    have hgt := ht t List.mem_cons_self
    rw [List.map_cons, ← List.singleton_append, ← List.append_assoc]
    unfold textF at h
    by_cases h4 : t.kind = 4
    · rw [if_pos h4] at h
      obtain rfl := o1 h4
      have h3 := h.line
      rw [if_pos rfl] at h3
      have hk : key t = endK := by
        rcases hgt with hgt | hgt | hgt
        · unfold key; rw [hgt.1, hgt.2.1, hgt.2.2]; rfl
        · have := hgt.1; rw [h4] at this; split at this <;> cases this
        · have := hgt.1; rw [h4] at this; cases this
      rw [hk]
      refine ih _ false ht2 ?_ h3
      have : decide (t.kind ≠ 4) = false := decide_eq_false fun h => h h4
      rw [this] at o2
      exact o2
    · rw [if_neg h4, good_body hgt, List.append_assoc] at h
      have o3 : Order true l := by
        have : decide (t.kind ≠ 4) = true := decide_eq_true h4
        rw [this] at o2
        exact o2
      have h1 : Mid F (t.text ++ textF false l) ks sm := by
        cases sm
        · exact h
        · exact Mid.blank (.inl rfl) h
      exact ih _ true ht2 o3 (h1.tok hgt h4 (textF_head l o3))
/-- The text of tokens that were cut is cut into the like. -/
theorem back_all (s u : ByteArray) (hs : s.size ≤ 65536) (hz : u.size ≤ 65536) (he : (allD s).2.err = 0) (hu : u.data.toList = textF true (allD s).1) :
    (allD u).2 = ⟨0, 0, 0⟩ ∧ (allD u).1.map key = (allD s).1.map key := by
  have hm := Mid.start u hz
  rw [hu] at hm
  obtain ⟨h1, h2⟩ := relexT (allD s).1 [] false (good_all s) (order_all s hs he) hm
  have e : allD u = ((lexed u).out, ⟨0, 0, 0⟩) := by
    unfold allD
    rw [if_neg (by omega), if_neg (fun h => h h2)]
  rw [e]
  exact ⟨rfl, by rw [h1]; rfl⟩
/-- The text hangs on what Like compares alone. -/
theorem textF_key : ∀ (l m : List TokD) (f : Bool), l.map key = m.map key → textF f l = textF f m := by
  intro l
  induction l with
  | nil => intro m f h; cases m with
    | nil => rfl
    | cons => cases h
  | cons t l ih =>
    intro m f h
    cases m with
    | nil => cases h
    | cons u m =>
      rw [List.map_cons, List.map_cons] at h
      injection h with h1 h2
      unfold key at h1
      injection h1 with k1 k2
      injection k2 with k2 k3
      unfold textF bodyT
      rw [k1, k2, k3, ih m true h2, ih m false h2]
end Go.Proofs.YtongaakijljnaaaDoor
