/- Maps of numbers that mark what is in a set; plain laws of the statement BitsetRules. -/
import Derived.Test.YtaaladekamfpnaaDoorBp
import Derived.Maps.OwnOps
import Derived.Maps.Views
namespace Go.Proofs.YtaaladekamfpnaaDoor
open Go.RowKit Bs Go.Maps

theorem lawI : Keyed Tryd.prog 3 := int_keyed Tryd.underlying3
theorem zeroI (w : World) : (zeroValue 3).run Tryd.prog w = .ok (.int .i64 0) w := by kernel_rfl
def bI (b : Bool) : Int := if b = true then 1 else 0
/-- Block b is a map that has 1 at each number below the width that is in l, and 0 at each other one. -/
def Marks (w : World) (b cnt : Nat) (l : List Bool) : Prop :=
  ∃ D : DataW Unit, w.ownsMap Tryd.prog 3 (plainElem Tryd.prog 3) b cnt D ∧ IsMap D ∧ ∀ i : Nat, D.atKey (.int .i64 (i : Int)) (.lit (.int .i64 0)) = .lit (.int .i64 (bI (at_ l i)))
theorem Marks.made (w : World) (n : Nat) : Marks (w.alloc (.map #[] 0)) w.heap.size 0 (List.replicate n false) :=
  ⟨.map [], World.ownsMap_made _ _ _ _, ⟨_, rfl⟩, fun i => by
    have : at_ (List.replicate n false) i = false := by
      unfold at_; rw [List.getD_eq_getElem?_getD, List.getElem?_replicate]; split <;> rfl
    rw [this]; rfl⟩
theorem Marks.lt {w : World} {b cnt : Nat} {l : List Bool} (h : Marks w b cnt l) : b < w.heap.size := by
  obtain ⟨D, h, _⟩ := h; exact h.lt
theorem Marks.keep {w w' : World} {b cnt : Nat} {l : List Bool} (h : Marks w b cnt l) (hk : w'.heap[b]? = w.heap[b]?) : Marks w' b cnt l := by
  obtain ⟨D, ⟨es, clock, hb, F, hs, hD⟩, h2⟩ := h
  exact ⟨D, ⟨es, clock, hk.trans hb, F, hs, hD⟩, h2⟩
theorem Marks.below_ {w w' : World} {b cnt : Nat} {l : List Bool} (h : Marks w b cnt l) (hb : Below w.heap.size w w') : Marks w' b cnt l := h.keep (hb.block b h.lt)
theorem Marks.chg {w w' : World} {b cnt lo hi : Nat} {l : List Bool} (h : Marks w b cnt l) (hc : Chg lo hi w w') (hd : b < lo ∨ hi ≤ b) : Marks w' b cnt l := h.keep (hc.block b hd)
theorem Marks.drewN {w : World} {b cnt : Nat} {l : List Bool} (h : Marks w b cnt l) (n : Nat) : Marks (w.drewN n) b cnt l := h
theorem wf_small {i : Nat} (h : i ≤ 1048576) : (Lit.int .i64 (i : Int)).wf = true := WalkArith.wf_i64 (by omega)
/-- What a look-up gives. -/
theorem Marks.look {w : World} {b cnt : Nat} {l : List Bool} (h : Marks w b cnt l) {i : Nat} (hi : i ≤ 1048576) : (Instr.lookup 43 (.map (some b)) (.int .i64 (i : Int)) false).run Tryd.prog w = .ok (.int .i64 (bI (at_ l i))) w := by
  obtain ⟨D, ho, _, hat⟩ := h
  obtain ⟨c, hrun, hc, _⟩ := ho.lookup_int lawI Tryd.underlying43 Tryd.underlying3 (zeroI w) (keyOf_int_mk Tryd.underlying3 (wf_small hi))
  rw [hat i] at hc
  injection hc with hc
  injection hc with _ hc
  rw [hrun, hc]
/-- What a store of 1 leaves. -/
theorem Marks.put {D : DataW Unit} {w' : World} {b cnt : Nat} {l : List Bool} {i : Nat} (hm : IsMap D) (hat : ∀ i : Nat, D.atKey (.int .i64 (i : Int)) (.lit (.int .i64 0)) = .lit (.int .i64 (bI (at_ l i)))) (hi : i < l.length)
    (h : w'.ownsMap Tryd.prog 3 (plainElem Tryd.prog 3) b (cnt + 1) (D.put (.int .i64 (i : Int)) (.lit (.int .i64 1)))) : Marks w' b (cnt + 1) (l.set i true) := by
  refine ⟨_, h, hm.put _ _, fun j => ?_⟩
  rw [at_set l i true hi]
  by_cases hj : j = i
  · subst hj
    rw [if_pos rfl, atKey_put_same hm (by trivial)]; rfl
  · rw [if_neg hj, atKey_put_other (by intro e; injection e with _ e; exact hj (by omega))]
    exact hat j

/-! plain laws -/
theorem ru1 {x y : List Bool} (hy : x.length = y.length) : minusL x (minusL x y) = andL x y := by
  have e1 := minusL_len hy
  have e2 := andL_len hy
  have e3 := minusL_len (l := x) (m := minusL x y) (by omega)
  apply ext (by omega)
  intro k
  rw [at_minus (by omega), at_minus hy, at_and hy]
  cases at_ x k <;> cases at_ y k <;> rfl
theorem ru2 {x y : List Bool} (hy : x.length = y.length) : orL (minusL x y) (andL x y) = x := by
  have e1 := minusL_len hy
  have e2 := andL_len hy
  have e3 := orL_len (l := minusL x y) (m := andL x y) (by omega)
  apply ext (by omega)
  intro k
  rw [at_or (by omega), at_minus hy, at_and hy]
  cases at_ x k <;> cases at_ y k <;> rfl
theorem ru3 (x : List Bool) : orL x x = x := by
  apply ext (orL_len rfl)
  intro k
  rw [at_or rfl]
  cases at_ x k <;> rfl
theorem ru4 (x : List Bool) : Bs.count (minusL x x) = 0 := by
  unfold Bs.count
  refine cnt_zero fun k _ => ?_
  rw [at_minus rfl]
  cases at_ x k <;> rfl
theorem cnt_inc {f g h k : Nat → Bool} (hh : ∀ i, h i = (f i || g i)) (hk : ∀ i, k i = (f i && g i)) (n : Nat) : cnt h n + cnt k n = cnt f n + cnt g n := by
  induction n with
  | zero => rfl
  | succ n ih =>
    rw [cnt, cnt, cnt, cnt, hh n, hk n]
    cases hf : f n <;> cases hg : g n <;> simp <;> omega
theorem ru5 {x y : List Bool} (hy : x.length = y.length) : Bs.count (orL x y) + Bs.count (andL x y) = Bs.count x + Bs.count y := by
  unfold Bs.count
  rw [orL_len hy, andL_len hy, ← hy]
  exact cnt_inc (at_or hy) (at_and hy) _
theorem ru6 {x y : List Bool} (hy : x.length = y.length) : Bs.count (minusL x y) + Bs.count (andL x y) = Bs.count x := by
  have := sp4 hy; omega
theorem upTo_pre (l : List Bool) (c d : Nat) : ∃ t, upTo l (c + d) = upTo l c ++ t := by
  induction d with
  | zero => exact ⟨[], by simp⟩
  | succ d ih =>
    obtain ⟨t, ht⟩ := ih
    exact ⟨t ++ if at_ l (c + d) = true then [((c + d : Nat) : Int)] else [], by rw [← Nat.add_assoc, upTo_succ, ht, List.append_assoc]⟩
theorem lat_step {l : List Bool} {c i : Nat} (hc : c ≤ l.length) (hi : (upTo l c).length = i) (hlt : i < (lst l).length) : ∃ kk : Nat, next l c = kk ∧ kk < l.length ∧ (lst l)[i] = (kk : Int) ∧ (upTo l (kk + 1)).length = i + 1 := by
  rcases next_ok l c with ⟨_, h2⟩ | ⟨kk, h1, h2, h3, h4⟩
  · rw [lst_end hc h2, hi] at hlt
    omega
  · have hkl := at_true h3
    have e1 : upTo l (kk + 1) = upTo l c ++ [(kk : Int)] := by rw [upTo_succ, upTo_next h2 h4, if_pos h3]
    refine ⟨kk, h1, hkl, ?_, by rw [e1, List.length_append, hi]; rfl⟩
    obtain ⟨t, ht⟩ := upTo_pre l (kk + 1) (l.length - (kk + 1))
    have e2 : lst l = (upTo l c ++ [(kk : Int)]) ++ t := by
      rw [← e1, ← ht, show kk + 1 + (l.length - (kk + 1)) = l.length by omega]; rfl
    have e3 : (lst l)[i]? = some (kk : Int) := by
      rw [e2, List.append_assoc, List.getElem?_append_right (by omega), hi, Nat.sub_self]; rfl
    rw [List.getElem?_eq_getElem hlt] at e3
    injection e3
theorem lat_end {l : List Bool} {c i : Nat} (hi : (upTo l c).length = i) (he : (lst l).length ≤ i) : next l c = -1 := by
  rcases next_ok l c with ⟨h1, _⟩ | ⟨kk, h1, h2, h3, h4⟩
  · exact h1
  · exfalso
    have hkl := at_true h3
    have e1 : upTo l (kk + 1) = upTo l c ++ [(kk : Int)] := by rw [upTo_succ, upTo_next h2 h4, if_pos h3]
    obtain ⟨t, ht⟩ := upTo_pre l (kk + 1) (l.length - (kk + 1))
    have e2 : lst l = (upTo l c ++ [(kk : Int)]) ++ t := by
      rw [← e1, ← ht, show kk + 1 + (l.length - (kk + 1)) = l.length by omega]; rfl
    rw [e2] at he
    simp at he
    omega
end Go.Proofs.YtaaladekamfpnaaDoor
