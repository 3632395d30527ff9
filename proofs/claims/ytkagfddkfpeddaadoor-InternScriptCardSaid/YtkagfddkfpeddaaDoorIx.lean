/- InternScript: two tables and two of the document's, side by side. -/
import Derived.Test.YtkagfddkfpeddaaDoorIu
namespace Go.Proofs.YtkagfddkfpeddaaDoor
open Go.RowKit Go.Maps It

section
variable {w w' : World} {B p q : Nat} {v : Value} {l : Nms} {ps : Nat} {vs : Value} {ls : Nms} {pc qc : Nat} {vc : Value} {lc : Nms} {pu : Nat} {vu : Value} {lu : Nms}
/-- What an Add leaves of the blocks that the table lies in. -/
theorem Added.moves {v' : Value} {IO : Nat → Prop} (hv : v' = v ∨ v'.ownBlock = v.ownBlock ∨ ∃ g, v'.ownBlock = some g ∧ w.heap.size ≤ g) (hlt : ∀ k, IO k → k < w.heap.size) (hap : ∀ k, Tbl.In p q v k → ¬ IO k) : ∀ k, Tbl.In p q v' k → ¬ IO k := by
  intro k h1 h2
  have hk := hlt k h2
  rcases h1 with h1 | h1 | h1
  · exact hap k (.inl h1) h2
  · exact hap k (.inr (.inl h1)) h2
  · rcases hv with rfl | hv | ⟨g, hg, hge⟩
    · exact hap k (.inr (.inr h1)) h2
    · exact hap k (.inr (.inr (by rw [← hv]; exact h1))) h2
    · rw [hg] at h1; injection h1 with h1; omega
theorem RAdded.moves {v' : Value} {IO : Nat → Prop} (hv : v' = v ∨ v'.ownBlock = v.ownBlock ∨ ∃ g, v'.ownBlock = some g ∧ w.heap.size ≤ g) (hlt : ∀ k, IO k → k < w.heap.size) (hap : ∀ k, RIn p v k → ¬ IO k) : ∀ k, RIn p v' k → ¬ IO k := by
  intro k h1 h2
  have hk := hlt k h2
  rcases h1 with h1 | h1
  · exact hap k (.inl h1) h2
  · rcases hv with rfl | hv | ⟨g, hg, hge⟩
    · exact hap k (.inr h1) h2
    · exact hap k (.inr (by rw [← hv]; exact h1)) h2
    · rw [hg] at h1; injection h1 with h1; omega
/-- Between two rounds. -/
structure Pair (w : World) (B p q : Nat) (v : Value) (l : Nms) (ps : Nat) (vs : Value) (ls : Nms) : Prop where
  t : Tbl w B p q v l
  s : RTb w B ps vs ls
  ts : ∀ k, Tbl.In p q v k → ¬ RIn ps vs k
/-- In a round. -/
structure Quad (w : World) (B p q : Nat) (v : Value) (l : Nms) (ps : Nat) (vs : Value) (ls : Nms) (pc qc : Nat) (vc : Value) (lc : Nms) (pu : Nat) (vu : Value) (lu : Nms) : Prop where
  t : Tbl w B p q v l
  s : RTb w B ps vs ls
  c : Tbl w B pc qc vc lc
  u : RTb w B pu vu lu
  ts : ∀ k, Tbl.In p q v k → ¬ RIn ps vs k
  tc : ∀ k, Tbl.In p q v k → ¬ Tbl.In pc qc vc k
  tu : ∀ k, Tbl.In p q v k → ¬ RIn pu vu k
  sc : ∀ k, RIn ps vs k → ¬ Tbl.In pc qc vc k
  su : ∀ k, RIn ps vs k → ¬ RIn pu vu k
theorem Pair.start {B' : Nat} (ht : Tbl w B p q v l) (hb : Below w.heap.size w w') (hs : RTb w' B' ps vs ls) (hB : w.heap.size ≤ B') : Pair w' B p q v l ps vs ls :=
  ⟨ht.below_ hb, hs.lower (Nat.le_trans (Nat.le_trans ht.bp (Nat.le_of_lt ht.lt)) hB), fun k h1 h2 => by have := (ht.in_lt h1).2; have := (hs.in_lt h2).1; omega⟩
theorem Pair.quad {w1 w2 : World} {B1 B2 : Nat} (h : Pair w B p q v l ps vs ls) (b1 : Below w.heap.size w w1) (hc : Tbl w1 B1 pc qc vc lc) (hB1 : w.heap.size ≤ B1) (b2 : Below w1.heap.size w1 w2) (hu : RTb w2 B2 pu vu lu) (hB2 : w1.heap.size ≤ B2) : Quad w2 B p q v l ps vs ls pc qc vc lc pu vu lu := by
  have hB : B ≤ w.heap.size := Nat.le_trans h.t.bp (Nat.le_of_lt h.t.lt)
  have h1 := b1.size
  refine ⟨(h.t.below_ b1).below_ b2, (h.s.below_ b1).below_ b2, (hc.below_ b2).lower (by omega), hu.lower (by omega), h.ts, fun k k1 k2 => ?_, fun k k1 k2 => ?_, fun k k1 k2 => ?_, fun k k1 k2 => ?_⟩
  · have := (h.t.in_lt k1).2; have := (hc.in_lt k2).1; omega
  · have := (h.t.in_lt k1).2; have := (hu.in_lt k2).1; omega
  · have := (h.s.in_lt k1).2; have := (hc.in_lt k2).1; omega
  · have := (h.s.in_lt k1).2; have := (hu.in_lt k2).1; omega
theorem Quad.pair (h : Quad w B p q v l ps vs ls pc qc vc lc pu vu lu) : Pair w B p q v l ps vs ls := ⟨h.t, h.s, h.ts⟩
theorem Quad.below_ (h : Quad w B p q v l ps vs ls pc qc vc lc pu vu lu) (hb : Below w.heap.size w w') : Quad w' B p q v l ps vs ls pc qc vc lc pu vu lu :=
  ⟨h.t.below_ hb, h.s.below_ hb, h.c.below_ hb, h.u.below_ hb, h.ts, h.tc, h.tu, h.sc, h.su⟩
theorem Quad.drewN (h : Quad w B p q v l ps vs ls pc qc vc lc pu vu lu) (n : Nat) : Quad (w.drewN n) B p q v l ps vs ls pc qc vc lc pu vu lu :=
  ⟨h.t.drewN n, h.s.drewN n, h.c.drewN n, h.u.drewN n, h.ts, h.tc, h.tu, h.sc, h.su⟩
theorem Quad.addT {x : List UInt8} {e : Ending} (h : Quad w B p q v l ps vs ls pc qc vc lc pu vu lu) (hA : Added w B p q v l x e w') :
    ∃ v', e = .returned (.tuple #[.int .i64 (addV l x), .int .i64 (addE l x)]) ∧ Quad w' B p q v' (addL l x) ps vs ls pc qc vc lc pu vu lu := by
  obtain ⟨v', he, ht, hs, hk, hv, _⟩ := hA
  refine ⟨v', he, ht, h.s.keep fun k k1 k2 => hk k k1 fun k3 => h.ts k k3 k2, h.c.keep fun k k1 k2 => hk k k1 fun k3 => h.tc k k3 k2, h.u.keep fun k k1 k2 => hk k k1 fun k3 => h.tu k k3 k2, ?_, ?_, ?_, h.sc, h.su⟩
  · exact Added.moves hv (fun k hk => (h.s.in_lt hk).2) h.ts
  · exact Added.moves hv (fun k hk => (h.c.in_lt hk).2) h.tc
  · exact Added.moves hv (fun k hk => (h.u.in_lt hk).2) h.tu
theorem Quad.addS {x : List UInt8} {e : Ending} (h : Quad w B p q v l ps vs ls pc qc vc lc pu vu lu) (hA : RAdded w B ps vs ls x e w') :
    ∃ vs', e = .returned (.tuple #[.int .i64 (addV ls x), .int .i64 (addE ls x)]) ∧ Quad w' B p q v l ps vs' (addL ls x) pc qc vc lc pu vu lu := by
  obtain ⟨vs', he, ht, hs, hk, hv, _⟩ := hA
  have hst : ∀ k, RIn ps vs k → ¬ Tbl.In p q v k := fun k k1 k2 => h.ts k k2 k1
  refine ⟨vs', he, h.t.keep fun k k1 k2 => hk k k1 fun k3 => hst k k3 k2, ht, h.c.keep fun k k1 k2 => hk k k1 fun k3 => h.sc k k3 k2, h.u.keep fun k k1 k2 => hk k k1 fun k3 => h.su k k3 k2, ?_, h.tc, h.tu, ?_, ?_⟩
  · intro k k1 k2
    exact RAdded.moves hv (fun k hk => (h.t.in_lt hk).2) hst k k2 k1
  · exact RAdded.moves hv (fun k hk => (h.c.in_lt hk).2) h.sc
  · exact RAdded.moves hv (fun k hk => (h.u.in_lt hk).2) h.su
end
theorem It.addL_le (l : Nms) (x : List UInt8) : (addL l x).length ≤ l.length + 1 := by
  unfold addL; split
  · rw [List.length_append, List.length_singleton]; exact Nat.le_refl _
  · exact Nat.le_succ _
def ScrRel (B : Nat) (w : World) (l m : Nms) (p q ps : Nat) (s : Value) (wr : World) : Prop :=
  ∃ (k : Nat) (v vs : Value), k ≤ m.length ∧ s = .int .i64 (k : Int) ∧ Pair wr B p q v (newL l (m.take k)) ps vs (newL l (m.take k)) ∧ Below B w wr
end Go.Proofs.YtkagfddkfpeddaaDoor
