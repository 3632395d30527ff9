/- The walk of the statement BitsetSpreads. -/
import Derived.Test.YtaaladekamfpnaaDoorSi
namespace Go.Proofs.YtaaladekamfpnaaDoor
open Go.RowKit Bs

/-- The cell of a set's pointer. -/
def pc (x : Nat) : List Value := [.pointer (some ⟨x, 0, none⟩)]
theorem pc_len : ∀ x, (pc x).length = 1 := fun _ => rfl
theorem pc_one : ∀ x, ∀ u ∈ pc x, u.oneCell' = true := by intro x u hu; simp [pc] at hu; subst hu; rfl
theorem info_ptr : (Tryd.prog.info? 25).map (fun i => (i.zero, i.size, i.bytes)) = some (some (.pointer none), 1, 8) := by kernel_rfl
theorem BSet.lt {w : World} {lo hi p : Nat} {l : List Bool} (h : BSet w lo hi p l) : lo < hi := by
  obtain ⟨v, ws, h1, h2, _⟩ := h; omega
theorem BSet.drew {w : World} {lo hi p : Nat} {l : List Bool} (h : BSet w lo hi p l) : BSet w.drew lo hi p l := h
/-- A row of pointers written leaves a set as it was. -/
theorem BSet.row {w w' : World} {lo hi p base : Nat} {l : List Bool} {v : Value} {ps : List Nat} (h : BSet w lo hi p l) (ho : Ow pc 1 w base 25 v ps) (hg : w.grownBy w' v.ownBlock) : BSet w' lo hi p l := by
  have key : ∀ (g : Nat) (cs : Array Value) (t : TypeId), w.heap[g]? = some (.cells cs t (0, 0)) → t ≠ 25 → w'.heap[g]? = w.heap[g]? := by
    intro g cs t hg' ht
    refine hg.block g (Array.getElem?_eq_some_iff.1 hg').1 ?_
    rcases ho.2 with ⟨rfl, _⟩ | ⟨g2, cap, cur, rfl, _, h2, _⟩
    · simp [Value.ownBlock]
    · intro e
      have : g = g2 := by simpa [Value.ownBlock] using e
      subst this
      rw [h2] at hg'
      injection hg' with hg'
      injection hg' with _ h3
      exact ht h3.symm
  obtain ⟨v, ws, h1, h2, h3, h4, h5, ⟨A, cap, e, g1, g2, g3⟩, h7⟩ := h
  refine ⟨v, ws, h1, h2, Nat.le_trans h3 hg.size, h4, (key p _ _ h5 (by decide)).trans h5, ⟨A, cap, e, g1, g2, fun hn => ?_⟩, h7⟩
  obtain ⟨g, cs, ea, hl, hh, hbk, hc⟩ := g3 hn
  exact ⟨g, cs, ea, hl, hh, (key g _ _ hbk (by decide)).trans hbk, hc⟩
theorem setSame_self (w : World) (lo hi p lo' hi' p' : Nat) (l m : List Bool) (h : BSet w lo hi p l) (k : BSet w lo' hi' p' m) (hlm : l = m) :
    Calls Tryd.prog 19 #[.pointer (some ⟨p, 0, none⟩), .pointer (some ⟨p', 0, none⟩)] w (Quiet (.bool true) w) := by
  have := setSame_any w lo hi p lo' hi' p' l m h k
  rwa [decide_eq_true hlm] at this

theorem quiet_same_left {P : Program} {f : FuncId} {args : Array Value} {w : World} {v : Value} (h : ∀ n, Calls P f args (w.drewN n) fun e w' => e = .returned v ∧ w.drewN n = w') (n : Nat) : Calls P f args (w.drewN n) fun e w'' => e = .returned v ∧ ∃ m, w'' = w.drewN m :=
  (h n).mono fun _ _ ⟨he, hm⟩ => ⟨he, n, hm.symm⟩

theorem quiet_add_left2 {P : Program} {f : FuncId} {args : Array Value} {w : World} {v : Value} (h : ∀ n, Calls P f args (w.drewN n) fun e w' => e = .returned v ∧ w.drewN n = w') (a n : Nat) : Calls P f args (w.drewN (a + n)) fun e w'' => e = .returned v ∧ ∃ m, w'' = w.drewN (a + m) :=
  (h (a + n)).mono fun _ _ ⟨he, hm⟩ => ⟨he, n, hm.symm⟩

/-! plain laws -/
def orL (l m : List Bool) : List Bool := List.zipWith (fun a b => a || b) l m
def andL (l m : List Bool) : List Bool := List.zipWith (fun a b => a && b) l m
def minusL (l m : List Bool) : List Bool := List.zipWith (fun a b => a && !b) l m
theorem orL_len {l m : List Bool} (h : l.length = m.length) : (orL l m).length = l.length := by unfold orL; rw [List.length_zipWith]; omega
theorem andL_len {l m : List Bool} (h : l.length = m.length) : (andL l m).length = l.length := by unfold andL; rw [List.length_zipWith]; omega
theorem minusL_len {l m : List Bool} (h : l.length = m.length) : (minusL l m).length = l.length := by unfold minusL; rw [List.length_zipWith]; omega
theorem at_or {l m : List Bool} (h : l.length = m.length) (k : Nat) : at_ (orL l m) k = (at_ l k || at_ m k) := at_zip (f := fun a b => a || b) rfl h k
theorem at_and {l m : List Bool} (h : l.length = m.length) (k : Nat) : at_ (andL l m) k = (at_ l k && at_ m k) := at_zip (f := fun a b => a && b) rfl h k
theorem at_minus {l m : List Bool} (h : l.length = m.length) (k : Nat) : at_ (minusL l m) k = (at_ l k && !at_ m k) := at_zip (f := fun a b => a && !b) rfl h k
theorem cnt_split {f g h : Nat → Bool} (hd : ∀ k, f k = true → g k = false) (hu : ∀ k, h k = (f k || g k)) (n : Nat) : cnt f n + cnt g n = cnt h n := by
  induction n with
  | zero => rfl
  | succ n ih =>
    rw [cnt, cnt, cnt, ← ih, hu n]
    have := hd n
    cases hf : f n <;> cases hg : g n <;> simp_all <;> omega
theorem sp1 {x y z : List Bool} (hy : x.length = y.length) (hz : x.length = z.length) : andL x (orL y z) = orL (andL x y) (andL x z) := by
  have e1 := orL_len (hy.symm.trans hz)
  have e2 := andL_len hy
  have e3 := andL_len hz
  have e4 := andL_len (l := x) (m := orL y z) (by omega)
  have e5 := orL_len (l := andL x y) (m := andL x z) (by omega)
  apply ext (by omega)
  intro k
  rw [at_and (by omega), at_or (by omega), at_or (by omega), at_and hy, at_and hz]
  cases at_ x k <;> cases at_ y k <;> cases at_ z k <;> rfl
theorem sp2 {x y z : List Bool} (hy : x.length = y.length) (hz : x.length = z.length) : minusL x (orL y z) = minusL (minusL x y) z := by
  have e1 := orL_len (hy.symm.trans hz)
  have e2 := minusL_len hy
  have e4 := minusL_len (l := x) (m := orL y z) (by omega)
  have e5 := minusL_len (l := minusL x y) (m := z) (by omega)
  apply ext (by omega)
  intro k
  rw [at_minus (by omega), at_or (by omega), at_minus (by omega), at_minus hy]
  cases at_ x k <;> cases at_ y k <;> cases at_ z k <;> rfl
theorem sp3 {x y : List Bool} (hy : x.length = y.length) : orL (andL x y) (minusL x y) = x := by
  have e1 := andL_len hy
  have e2 := minusL_len hy
  have e3 := orL_len (l := andL x y) (m := minusL x y) (by omega)
  apply ext (by omega)
  intro k
  rw [at_or (by omega), at_and hy, at_minus hy]
  cases at_ x k <;> cases at_ y k <;> rfl
theorem sp4 {x y : List Bool} (hy : x.length = y.length) : Bs.count (andL x y) + Bs.count (minusL x y) = Bs.count x := by
  unfold Bs.count
  rw [andL_len hy, minusL_len hy]
  refine cnt_split (fun k h => ?_) (fun k => ?_) _
  · rw [at_and hy] at h
    rw [at_minus hy]
    cases hx : at_ x k <;> cases hyk : at_ y k <;> simp_all
  · rw [at_and hy, at_minus hy]
    cases at_ x k <;> cases at_ y k <;> rfl
end Go.Proofs.YtaaladekamfpnaaDoor
