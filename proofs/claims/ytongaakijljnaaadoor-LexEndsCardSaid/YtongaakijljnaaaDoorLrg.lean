/- A range over a function whose iterator keeps its state in memory: the law of the walk, where every function may run. -/
import Derived.RangeFuncOwn
import Derived.RangeFuncLeaves
import Derived.RangeFuncWrites
import Derived.Below
import Derived.OwnWalkIn
import Derived.Test.YtongaakijljnaaaDoorLra
namespace Go.Proofs.YtongaakijljnaaaDoor
open Go.RowKit
section
variable {Pr : Program} (w : World) {α : Type} {c : α → List Value} {size : Nat}
theorem wpListIn_append_sl {F : Fence} {n' : Nat} {ops : Array Oper} {rest : List Oper} {o : Oper} {a : Act} {Q : Exit → Act → World → Prop} (hgd : o.guard = none) (s x : Operand) (t : TypeId)
    (ho : o.op = .call { callee := .builtin .append, args := #[s, x], argTypes := #[t, t] })
    (base : Nat) (e : TypeId) (i : TypeInfo) (z : Value) (bytes : Nat) (ht : Pr.underlying t = some (.slice e)) (hi : Pr.info? e = some i) (hz : i.zero = some z)
    (hsize : i.size = size) (hby : i.bytes = bytes) (hzs : z.cells.size = size) (hsz : 0 < size) (hc : ∀ a, (c a).length = size) (h1 : ∀ a, ∀ u ∈ c a, u.oneCell' = true)
    (v vx : Value) (l lx : List α) (hs : a.eval s = v) (hxe : a.eval x = vx) (hown : Ow c size w base e v l) {R : Nat → Prop} (hx : Sl c size w vx lx R)
    (h63 : l.length + lx.length ≤ maxLen) (hbytes : (l.length + lx.length) * bytes ≤ 140737488355328) (hbase : base ≤ w.heap.size)
    (h : ∀ v' w', Ow c size w' base e v' (l ++ lx) → w.grownBy w' v.ownBlock → Moved w v v' → wpListIn F n' Pr ops Q rest (a.put o.dst v') w') : wpListIn F n' Pr ops Q (o :: rest) a w := by
  refine wpListIn_plain hgd fun K hK => ?_
  obtain ⟨v', w', hr, h2, h3, h4⟩ := run_append_sl (Pr := Pr) w base t o.type e i z bytes ht hi hz hsize hby hzs hsz hc h1 v vx l lx hown hx h63 hbytes hbase
  unfold Oper.wpIn
  refine ⟨?_, ?_⟩
  · simp [Oper.about, ho, resolve, Target.leads, Sem.run_pure]
  · rw [Oper.semAt_plain F _ _ (by rw [ho]; intro c hc'; cases hc')]
    simp [execOp, ho, resolve, invoke, builtin, hs, hxe, hr, Result.andThen]
    exact hK _ _ (h v' w' h2 h3 h4)
end
set_option maxHeartbeats 1000000 in
/-- The statement 'for x := range f' at a closure f: between two rounds I; of what a round is handed G; the law's own two blocks stand at the heap's end. -/
theorem wp_rangeFunc_state {α : Type} {P : Program} {n : Nat} {g : Operand} {ps : Array Tmp} {assign body : Code} {Q : Exit → Act → World → Prop} {a : Act} {w : World}
    {gf : Nat} {lb : Array Value} (hg : a.eval g = .func (.func gf) #[] lb) (eg : ∀ args w, (callFunc gf args).run P w = .ok (.enter gf args) w)
    (enc : α → Array Value) (hps : ∀ x, (enc x).size = ps.size)
    (I : List α → World → Prop) (G : α → World → Prop) (S : List α → Prop) (N kb : Nat) (hkb : kb ≤ w.heap.size)
    (hI : ∀ s W b o, b = w.heap.size ∨ b = w.heap.size + 1 → I s W → I s (W.putObj b o))
    (hG : ∀ x W b o, b = w.heap.size ∨ b = w.heap.size + 1 → G x W → G x (W.putObj b o))
    (a₁ : α → Act)
    (hassign : ∀ (x : α) (W : World) (K : Act → World → Prop), K (a₁ x) W →
      assign.wpIn (Fence.wide.inRound (w.heap.size + 1)) n P (Exit.then K (fun _ _ _ => False)) { tmps := (ps.zip (enc x)).foldl (fun t (p, v) => t.setIfInBounds p v) a.tmps, defers := [] } W)
    (hbody : ∀ (s : List α) (x : α) (W : World), I s W → G x W → s.length < N → w.heap.size + 2 ≤ W.heap.size → body.wpIn (Fence.wide.inRound (w.heap.size + 1)) n P
      (fun e _ W' => e = .normal ∧ (∀ b, kb ≤ b → b ≤ w.heap.size + 1 → W'.heap[b]? = W.heap[b]?) ∧ I (s ++ [x]) W') (a₁ x) W)
    (hiter : ∀ (o1 o2 : Obj), (∀ (s : List α) (x : α) (W : World), I s W → G x W → s.length < N → W.heap[w.heap.size]? = some o1 → W.heap[w.heap.size + 1]? = some o2 →
        YieldAt Fence.wide n P (w.heap.size + 1) (enc x) W fun e W' => e = .returned (.bool true) ∧ I (s ++ [x]) W' ∧ ∀ b, kb ≤ b → b ≤ w.heap.size + 1 → W'.heap[b]? = W.heap[b]?) →
      CallsIn Fence.wide (n + 1) P gf (#[.func (.yield (w.heap.size + 1)) #[] #[]] ++ lb) ((w.alloc o1).alloc o2) fun e W' => (∃ v, e = .returned v) ∧ ∃ s, S s ∧ I s W' ∧ W'.heap[w.heap.size]? = some o1 ∧ W'.heap[w.heap.size + 1]? = some o2)
    (hdone : ∀ (s : List α) (W : World), S s → I s W → W.heap[w.heap.size]? = some (.deferred (some [])) → Q .normal { a with defers := { target := .collected w.heap.size, args := #[] } :: a.defers } W) :
    (Code.rangeFunc g ps assign body).wpIn Fence.wide (n + 2) P Q a w := by
  refine wpIn_rangeFunc ?_
  intro fn hfn
  obtain ⟨rec, hrec⟩ : ∃ rec : LoopState → Option Code → Loop, rec = fun st pe => { state := st, pending := pe, fn, tmps := a.tmps, params := ps, assign, body, defers := w.heap.size } := ⟨_, rfl⟩
  obtain ⟨W1, hW1⟩ : ∃ W1, (w.alloc (.deferred (some []))).alloc (.loop (rec .ready none)) = W1 := ⟨_, rfl⟩
  have hround : ∀ (s : List α) (x : α) (W : World), I s W → G x W → s.length < N → W.heap[w.heap.size]? = some (.deferred (some [])) → W.heap[w.heap.size + 1]? = some (.loop (rec .ready none)) →
        YieldAt Fence.wide n P (w.heap.size + 1) (enc x) W fun e W' => e = .returned (.bool true) ∧ I (s ++ [x]) W' ∧ ∀ b, kb ≤ b → b ≤ w.heap.size + 1 → W'.heap[b]? = W.heap[b]? := by
    intro s x W hi hgx hN hk hl
    have hlt : w.heap.size + 1 < W.heap.size := (Array.getElem?_eq_some_iff.1 hl).1
    have hy := run_yield (P := P) (args := enc x) hl (by rw [hrec]; exact hps x)
    rw [hrec] at hy
    refine ⟨fn, _, assign, body, hy, roundIn_of_wpIn hfn (hassign x W _ ⟨_, run_beginRound hl (by rw [hrec]), ?_⟩)⟩
    have hl2 : (W.putObj (w.heap.size + 1) (.loop { rec .ready none with state := .busy })).heap[w.heap.size + 1]? = some (.loop { rec .ready none with state := .busy }) := World.putObj_heap_same hlt
    have hsz : w.heap.size + 2 ≤ (W.putObj (w.heap.size + 1) (.loop { rec .ready none with state := .busy })).heap.size := by rw [World.putObj_size]; omega
    refine wpIn_mono (hbody s x _ (hI _ _ _ _ (.inr rfl) hi) (hG _ _ _ _ (.inr rfl) hgx) hN hsz) ?_
    rintro e a3 W3 ⟨rfl, hk4, hi3⟩
    have hl3 := (hk4 (w.heap.size + 1) (Nat.le_succ_of_le hkb) (Nat.le_refl _)).trans hl2
    have hend := run_endRound (P := P) none hl3
    rw [hrec] at hend
    refine ⟨_, _, hend, rfl, hI _ _ _ _ (.inr rfl) hi3, fun b hb1 hb2 => ?_⟩
    by_cases hb : b = w.heap.size + 1
    · rw [hb, hl, hrec]; exact World.putObj_heap_same (Array.getElem?_eq_some_iff.1 hl3).1
    · exact (World.putObj_heap_other hb).trans ((hk4 b hb1 hb2).trans (World.putObj_heap_other hb))
  have hit := hiter (.deferred (some [])) (.loop (rec .ready none)) hround
  rw [hW1] at hit
  refine ⟨w.heap.size + 1, [{ target := .collected w.heap.size, args := #[] }], W1, { target := .fn (.func gf) lb, args := #[.func (.yield (w.heap.size + 1)) #[] #[]] }, W1, gf,
    #[.func (.yield (w.heap.size + 1)) #[] #[]] ++ lb, W1, ?_, ?_, ?_, ?_, ?_, ?_⟩
  · rw [← hW1, hrec]; exact run_enterLoop_outer _ _ _ _ _
  · simp only [resolve, hg]
    simp [go_sem]
  · intro f' hf'; exact trivial
  · simp [invoke, go_sem, eg]
  · intro _; exact Nat.le_add_left _ _
  · refine hit.mono ?_
    rintro e W2 ⟨⟨v, rfl⟩, s, hS, hi, hk, hl⟩
    have he := run_endLoop (P := P) hl (by rw [hrec]; simp)
    rw [hrec] at he
    exact ⟨none, _, he, hdone s _ hS (hI _ _ _ _ (.inr rfl) hi) ((World.putObj_heap_other (Nat.ne_of_lt (Nat.lt_succ_self _))).trans hk)⟩
end Go.Proofs.YtongaakijljnaaaDoor
