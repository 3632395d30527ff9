/- Helpers for the walk of change.read. -/
import Derived.Test.YtlclkeihkkpdbaaGreatDoorUj
namespace Go.Proofs.YtlclkeihkkpdbaaGreatDoor
open Go.RowKit
theorem order_cut : ∀ (l : List TokD) (sm : Bool), Order sm l → l ≠ [] ∨ sm = true → cutE l < l.length ∧ Order false (l.drop (cutE l + 1)) ∧ (sm = false → 0 < cutE l) := by
  intro l
  induction l with
  | nil =>
    intro sm h hn
    obtain rfl : sm = false := h
    rcases hn with hn | hn
    · exact absurd rfl hn
    · cases hn
  | cons t l ih =>
    intro sm h _
    obtain ⟨h1, h2⟩ := h
    by_cases h4 : t.kind = 4
    · have e : cutE (t :: l) = 0 := by unfold cutE; rw [if_pos h4]
      have hd : decide (t.kind ≠ 4) = false := decide_eq_false fun h => h h4
      rw [hd] at h2
      rw [e]
      refine ⟨by simp, h2, fun hs => ?_⟩
      rw [h1 h4] at hs; cases hs
    · have e : cutE (t :: l) = cutE l + 1 := by rw [cutE, if_neg h4]
      have hd : decide (t.kind ≠ 4) = true := decide_eq_true h4
      rw [hd] at h2
      obtain ⟨k1, k2, k3⟩ := ih true h2 (.inr rfl)
      rw [e]
      exact ⟨by simp; exact k1, k2, fun _ => Nat.succ_pos _⟩
theorem results_ttc {P : Program} {fn : Func} {q r p : Tmp} {ty : TypeId} (h : fn.results = #[.tmp q, .tmp r, .cell p ty]) (tmps : Array Value) (w : World) (g : Nat) (t : TypeId) (cs : Array Value) (fr : Nat × Nat) (d : TypeDesc)
    (hp : tmps.getD p undef = .pointer (some ⟨g, 0, none⟩)) (hg : w.heap[g]? = some (.cells cs t fr))
    (hu : P.underlying ty = some d) (hd : (match d with | .struct _ | .array _ _ => true | _ => false) = true) (hi : (P.info? ty).map (·.size) = some cs.size) :
    (results fn tmps).run P w = .ok (.tuple #[tmps.getD q undef, tmps.getD r undef, .agg cs]) w := by
  have hp' : tmps[p]?.getD undef = .pointer (some ⟨g, 0, none⟩) := by simpa using hp
  simp [results, h, hp', asAddr, run_loadVar_row w g t ty cs fr d hg hu hd hi]
def combD (us : List UpD) (bs : List TokD) (r : ReadD) : ReadD := if r.err ≠ 0 then ⟨[], [], r.err, r.line, r.col⟩ else ⟨us ++ r.us, bs ++ r.bs, 0, 0, 0⟩
/-- Three cells of a block written. -/
theorem set3 {w w0 : World} {h B : Nat} {z0 z1 z2 : Value} {t : TypeId} (y0 y1 y2 : Value) (hf : w.heap[h]? = some (.cells #[z0, z1, z2] t (0, 0))) (hb : Below B w0 w) (hB : B ≤ h) :
    (((w.setCell ⟨h, 0, none⟩ y0).setCell ⟨h, 1, none⟩ y1).setCell ⟨h, 2, none⟩ y2).heap[h]? = some (.cells #[y0, y1, y2] t (0, 0)) ∧ (∀ c, c ≠ h → (((w.setCell ⟨h, 0, none⟩ y0).setCell ⟨h, 1, none⟩ y1).setCell ⟨h, 2, none⟩ y2).heap[c]? = w.heap[c]?) ∧ Below B w0 (((w.setCell ⟨h, 0, none⟩ y0).setCell ⟨h, 1, none⟩ y1).setCell ⟨h, 2, none⟩ y2) := by
  have c0 := heap_setCell_same w h 0 _ _ y0 hf
  simp only [List.setIfInBounds_toArray, List.set_cons_zero] at c0
  have c1 := heap_setCell_same _ h 1 _ _ y1 c0
  simp only [List.setIfInBounds_toArray, List.set_cons_zero, List.set_cons_succ] at c1
  have c2 := heap_setCell_same _ h 2 _ _ y2 c1
  simp only [List.setIfInBounds_toArray, List.set_cons_zero, List.set_cons_succ] at c2
  exact ⟨c2, fun c hc => by repeat rw [Below.heap_setCell _ _ _ _ (by show c ≠ h; exact hc)], ((hb.setCell (p := ⟨h, 0, none⟩) hB y0).setCell (p := ⟨h, 1, none⟩) hB y1).setCell (p := ⟨h, 2, none⟩) hB y2⟩
theorem step_out {st : St} {c : Cur} (hi : Inv st c) : (stepSt st c).2.out.length ≤ 2 * c.s.size := by
  have ok := hi.ok
  have k2 := ok.pos
  have ho := hi.out
  have h : c.out.length ≤ 2 * c.s.size := by omega
  by_cases hs : st = .none
  · subst hs; exact h
  rcases (step_inv hi hs).1 with h1 | h1
  · cases st with
    | none => exact h
    | any => show (stepAny c).2.out.length ≤ _; unfold stepAny; (repeat' split) <;> exact h
    | end_ =>
      have hc : c.close.out.length ≤ 2 * c.s.size := by
        unfold Cur.close
        split
        · rename_i hsm
          rw [if_pos hsm] at ho
          show (c.out ++ [_]).length ≤ _
          rw [List.length_append, List.length_singleton]; omega
        · exact h
      show (stepEnd c).2.out.length ≤ _
      unfold stepEnd
      split
      · exact hc
      · exact hc
    | remark => exact h
    | word =>
      revert h1
      show (stepWord c).1 = .none → (stepWord c).2.out.length ≤ _
      unfold stepWord
      dsimp only
      split
      · exact fun _ => h
      · exact fun e => (by cases e)
    | number =>
      revert h1
      show (stepNumber c).1 = .none → (stepNumber c).2.out.length ≤ _
      unfold stepNumber
      dsimp only
      (repeat' split) <;> first | exact fun _ => h | exact fun e => (by cases e)
  · have h2 := h1.out
    have h3 := h1.ok.pos
    rw [stepSt_s] at h3
    omega
theorem runs_out : ∀ (n : Nat) {st : St} {c : Cur}, (st = .none ∨ Inv st c) → c.out.length ≤ 2 * c.s.size → (runs n st c).2.out.length ≤ 2 * c.s.size := by
  intro n
  induction n with
  | zero => intro st c _ h; exact h
  | succ n ih =>
    intro st c hi h
    by_cases hs : st = .none
    · subst hs; simp only [runs, if_true]; exact h
    · simp only [runs, if_neg hs]
      have hj := hi.resolve_left hs
      have h2 := ih (step_inv hj hs).1 (by rw [stepSt_s]; exact step_out hj)
      rw [stepSt_s] at h2
      exact h2
theorem tok_count (s : ByteArray) : (allD s).1.length ≤ 2 * s.size := by
  unfold allD
  split
  · exact Nat.zero_le _
  · rename_i hs
    split
    · exact Nat.zero_le _
    · exact runs_out _ (.inr (start_inv s (by omega))) (Nat.zero_le _)
/-- Rows of unlike types lie in unlike blocks. -/
theorem ow_apart {α β : Type} {c1 : α → List Value} {c2 : β → List Value} {s1 s2 B1 B2 : Nat} {e1 e2 : TypeId} {v1 v2 : Value} {l1 : List α} {l2 : List β} {w : World} (h1 : Ow c1 s1 w B1 e1 v1 l1) (h2 : Ow c2 s2 w B2 e2 v2 l2) (hne : e1 ≠ e2) : v1.ownBlock = none ∨ v1.ownBlock ≠ v2.ownBlock := by
  rcases h1.2 with ⟨rfl, _⟩ | ⟨g, cap, cur, rfl, _, hg, _⟩
  · exact .inl rfl
  · refine .inr fun h => ?_
    rcases h2.2 with ⟨rfl, _⟩ | ⟨g2, cap2, cur2, rfl, _, hg2, _⟩
    · cases h
    · have e : g = g2 := by simpa [Value.ownBlock] using h
      subst e
      rw [hg] at hg2
      injection hg2 with hg2
      injection hg2 with _ h3 _
      exact hne h3
/-- Two rows of one's own, side by side, and a block beside them. -/
structure Two (W0 : World) (B q : Nat) (cs : Array Value) (vu vb : Value) (us : List UpD) (bs : List TokD) (w : World) : Prop where
  u : Ow upc 8 w B 25 vu us
  b : Ow tkc 5 w B 51 vb bs
  below : Below B W0 w
  hB : B ≤ W0.heap.size
  qq : w.heap[q]? = some (.cells cs 25 (0, 0))
  qu : ∀ k, vu.ownBlock = some k → k ≠ q
section
variable {W0 w w' : World} {B q : Nat} {cs : Array Value} {vu vb vu' vb' : Value} {us us' : List UpD} {bs bs' : List TokD}
theorem Two.drewN (h : Two W0 B q cs vu vb us bs w) (n : Nat) : Two W0 B q cs vu vb us bs (w.drewN n) := ⟨h.u.drewN n, h.b.drewN n, below_drewN h.below n, h.hB, h.qq, h.qu⟩
theorem Two.lt (h : Two W0 B q cs vu vb us bs w) : q < w.heap.size := (Array.getElem?_eq_some_iff.1 h.qq).1
theorem Two.size (h : Two W0 B q cs vu vb us bs w) : B ≤ w.heap.size := Nat.le_trans h.hB h.below.size
theorem Two.alloc (h : Two W0 B q cs vu vb us bs w) (o : Obj) : Two W0 B q cs vu vb us bs (w.alloc o) := ⟨h.u.alloc o, h.b.alloc o, h.below.alloc h.size o, h.hB, (Below.heap_alloc _ _ _ h.lt).trans h.qq, h.qu⟩
theorem Two.qb (h : Two W0 B q cs vu vb us bs w) : some q ≠ vb.ownBlock := by
  intro e
  rcases h.b.2 with ⟨hv, _⟩ | ⟨g, cap, cur, hv, _, hg, _⟩
  · rw [hv] at e; cases e
  · have e1 : q = g := by rw [hv] at e; simpa [Value.ownBlock] using e
    have := h.qq
    rw [e1, hg] at this
    injection this with this
    injection this with _ h3 _
    revert h3; decide
theorem Two.appU (h : Two W0 B q cs vu vb us bs w) (hown : Ow upc 8 w' B 25 vu' us') (hg : w.grownBy w' vu.ownBlock) (hm : Moved w vu vu') : Two W0 B q cs vu' vb us' bs w' := by
  refine ⟨hown, h.b.kept hg (ow_apart h.b h.u (by decide)), h.below.grown hg h.size fun k hk => (h.u.lt hk).1, h.hB, (hg.block q h.lt fun e => h.qu q e.symm rfl).trans h.qq, fun k hk => ?_⟩
  rcases hm with hm | ⟨g, hm, hge⟩
  · exact h.qu k (hm ▸ hk)
  · rw [hm] at hk; injection hk with hk; have := h.lt; omega
theorem Two.appB (h : Two W0 B q cs vu vb us bs w) (hown : Ow tkc 5 w' B 51 vb' bs') (hg : w.grownBy w' vb.ownBlock) : Two W0 B q cs vu vb' us bs' w' :=
  ⟨h.u.kept hg (ow_apart h.u h.b (by decide)), hown, h.below.grown hg h.size fun k hk => (h.b.lt hk).1, h.hB, (hg.block q h.lt h.qb).trans h.qq, h.qu⟩
/-- A slice in a block of its own. -/
theorem Two.one {α : Type} {c : α → List Value} {size : Nat} {v : Value} {l : List α} {H : Nat} {row : Option Nat} (hs : Sl c size w v l (fun b => b = H)) (hg : w.grownBy w' row) (hr : ∀ k, row = some k → k ≠ H) : Sl c size w' v l (fun b => b = H) :=
  hs.grown hg fun b hb e => hr b e.symm hb
end
theorem Sl.newEq {α : Type} {c : α → List Value} {size : Nat} {w : World} {H : Nat} {t : TypeId} (x : α) (hH : w.heap.size = H) : Sl c size (w.alloc (.cells (c x).toArray t)) (.slice (some ⟨H, 0, none⟩) 1 1) [x] (fun b => b = H) := by
  subst hH
  exact Sl.one x (heap_alloc_new _ _) rfl
theorem cut_last : ∀ (l : List TokD), cutE l < l.length → ∀ x, (l.take (cutE l + 1)).getLast? = some x → x.kind = 4 := by
  intro l
  induction l with
  | nil => intro h; exact absurd h (Nat.not_lt_zero _)
  | cons t l ih =>
    intro h x hx
    by_cases h4 : t.kind = 4
    · have e : cutE (t :: l) = 0 := by unfold cutE; rw [if_pos h4]
      rw [e] at hx
      simp at hx
      rw [← hx]; exact h4
    · have e : cutE (t :: l) = cutE l + 1 := by rw [cutE, if_neg h4]
      rw [e] at hx h
      have h1 : cutE l < l.length := by simpa using h
      refine ih h1 x ?_
      rw [List.take_succ_cons] at hx
      rw [List.getLast?_cons] at hx
      rcases hg : (l.take (cutE l + 1)).getLast? with _ | y
      · rw [List.getLast?_eq_none_iff] at hg
        have := congrArg List.length hg
        rw [List.length_take] at this
        simp at this
        rw [this] at h1
        exact absurd h1 (Nat.not_lt_zero _)
      · rw [hg] at hx; exact hx
/-- The reading of what is left, joined with what was read. -/
theorem combD_start (gs : List (List TokD)) : combD [] [] (readL gs) = readL gs := by
  by_cases h : (readL gs).err = 0
  · obtain ⟨h1, h2⟩ := readL_ok gs h
    generalize readL gs = r at h h1 h2
    obtain ⟨ru, rb, re, rl, rc⟩ := r
    subst h h1 h2
    rfl
  · obtain ⟨h1, h2⟩ := readL_bad gs h
    generalize readL gs = r at h h1 h2
    obtain ⟨ru, rb, re, rl, rc⟩ := r
    dsimp only at h h1 h2
    subst h1 h2
    unfold combD
    rw [if_pos h]
theorem combD_nil (us : List UpD) (bs : List TokD) : combD us bs (readL (splitE [] [])) = ⟨us, bs, 0, 0, 0⟩ := by
  show (if (0 : Int) ≠ 0 then _ else _) = _
  rw [if_neg (fun h => h rfl)]
  simp [readL, splitE]
theorem combD_bad (us : List UpD) (bs : List TokD) (l : List TokD) (hc : cutE l < l.length) (he : (lineU (l.take (cutE l + 1))).2.1 ≠ 0) :
    combD us bs (readL (splitE [] l)) = ⟨[], [], (lineU (l.take (cutE l + 1))).2.1, (lineU (l.take (cutE l + 1))).2.2.1, (lineU (l.take (cutE l + 1))).2.2.2⟩ := by
  rw [splitE_cut _ _ hc, List.nil_append, readL, if_pos he]
  unfold combD
  rw [if_pos he]
theorem combD_ok (us : List UpD) (bs : List TokD) (l : List TokD) (hc : cutE l < l.length) (he : (lineU (l.take (cutE l + 1))).2.1 = 0) :
    combD us bs (readL (splitE [] l)) = combD (us ++ [(lineU (l.take (cutE l + 1))).1]) (bs ++ [(l.take (cutE l + 1)).headD ⟨0, [], 0, 0, 0⟩]) (readL (splitE [] (l.drop (cutE l + 1)))) := by
  rw [splitE_cut _ _ hc, List.nil_append, readL, if_neg (fun h => h he)]
  generalize readL (splitE [] (l.drop (cutE l + 1))) = r
  obtain ⟨ru, rb, re, rl, rc⟩ := r
  by_cases hr : re = 0
  · subst hr
    simp [combD]
  · simp [combD, hr]
theorem info_upd : (Tryz.prog.info? 25).map (fun i => (i.zero, i.size, i.bytes)) = some (some (.agg #[.int .i64 0, .string ByteArray.empty, .int .i64 0, .int .i64 0, .int .i64 0, .int .i64 0, .int .i64 0, .int .i64 0]), 8, 72) := by kernel_rfl
end Go.Proofs.YtlclkeihkkpdbaaGreatDoor
