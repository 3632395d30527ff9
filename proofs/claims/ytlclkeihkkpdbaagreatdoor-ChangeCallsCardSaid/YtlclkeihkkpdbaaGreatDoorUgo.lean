/- A drawn region of which three, or four, operations may come up: any of them first. -/
import Derived.Test.YtlclkeihkkpdbaaGreatDoorMh
namespace Go.Proofs.YtlclkeihkkpdbaaGreatDoor
open Go
variable {P : Program} {Q : Exit → Act → World → Prop} {S : World → Prop}
theorem goon_any {a : Act} {w : World} {l : List Oper} {s1 s2 hd fr : List Nat} {n : Nat} {listed : Array Bool} (r : List Nat) (hne : r ≠ []) (hr : Region.ready .any l.toArray listed = r)
    (h : ∀ i ∈ r, hOp P l.toArray (NoPanic Q) S (kdL s1 s2 hd fr) i (GoOn P l.toArray (NoPanic Q) S (kdL s1 s2 hd fr) n (listed.setIfInBounds i true)) a w) : GoOn P l.toArray (NoPanic Q) S (kdL s1 s2 hd fr) (n + 1) listed a w := fun inv => by
  refine ⟨fun h0 => absurd (hr.symm.trans h0) hne, fun k hk => ?_⟩
  exact hOp_mono (fun a w h => h (inv.set hk)) (h k (hr ▸ hk))
theorem goon_three {a : Act} {w : World} {l : List Oper} {s1 s2 hd fr : List Nat} {n : Nat} {listed : Array Bool} (i j k : Nat) (hr : Region.ready .any l.toArray listed = [i, j, k])
    (h1 : hOp P l.toArray (NoPanic Q) S (kdL s1 s2 hd fr) i (GoOn P l.toArray (NoPanic Q) S (kdL s1 s2 hd fr) n (listed.setIfInBounds i true)) a w)
    (h2 : hOp P l.toArray (NoPanic Q) S (kdL s1 s2 hd fr) j (GoOn P l.toArray (NoPanic Q) S (kdL s1 s2 hd fr) n (listed.setIfInBounds j true)) a w)
    (h3 : hOp P l.toArray (NoPanic Q) S (kdL s1 s2 hd fr) k (GoOn P l.toArray (NoPanic Q) S (kdL s1 s2 hd fr) n (listed.setIfInBounds k true)) a w) : GoOn P l.toArray (NoPanic Q) S (kdL s1 s2 hd fr) (n + 1) listed a w :=
  goon_any [i, j, k] (by simp) hr fun x hx => by
    simp only [List.mem_cons, List.not_mem_nil, or_false] at hx
    rcases hx with rfl | rfl | rfl
    · exact h1
    · exact h2
    · exact h3
theorem goon_four {a : Act} {w : World} {l : List Oper} {s1 s2 hd fr : List Nat} {n : Nat} {listed : Array Bool} (i j k m : Nat) (hr : Region.ready .any l.toArray listed = [i, j, k, m])
    (h1 : hOp P l.toArray (NoPanic Q) S (kdL s1 s2 hd fr) i (GoOn P l.toArray (NoPanic Q) S (kdL s1 s2 hd fr) n (listed.setIfInBounds i true)) a w)
    (h2 : hOp P l.toArray (NoPanic Q) S (kdL s1 s2 hd fr) j (GoOn P l.toArray (NoPanic Q) S (kdL s1 s2 hd fr) n (listed.setIfInBounds j true)) a w)
    (h3 : hOp P l.toArray (NoPanic Q) S (kdL s1 s2 hd fr) k (GoOn P l.toArray (NoPanic Q) S (kdL s1 s2 hd fr) n (listed.setIfInBounds k true)) a w)
    (h4 : hOp P l.toArray (NoPanic Q) S (kdL s1 s2 hd fr) m (GoOn P l.toArray (NoPanic Q) S (kdL s1 s2 hd fr) n (listed.setIfInBounds m true)) a w) : GoOn P l.toArray (NoPanic Q) S (kdL s1 s2 hd fr) (n + 1) listed a w :=
  goon_any [i, j, k, m] (by simp) hr fun x hx => by
    simp only [List.mem_cons, List.not_mem_nil, or_false] at hx
    rcases hx with rfl | rfl | rfl | rfl
    · exact h1
    · exact h2
    · exact h3
    · exact h4
/-- The condition may be made stronger on the way. -/
theorem hOp_weaken {ops : Array Oper} {kd : Nat → Nat} {S' : World → Prop} (hS : ∀ w, S' w → S w) {i : Nat} {a : Act} {w : World} {K K' : Act → World → Prop} (h : ∀ a w, K a w → K' a w) (hh : hOp P ops Q S' kd i K a w) : hOp P ops Q S kd i K' a w := by
  unfold hOp at *
  split at hh
  · exact qOp_mono (fun a => h a w) hh
  · exact fun n => wpOp_mono (fun a w h' => ⟨hS _ h'.1, h _ _ h'.2⟩) (hh n)
  · exact fun n => wpOp_mono h (hh n)
  · exact qOp_mono (fun a => h a w) hh
theorem wpAnyK_weaken {md : Region.Mode} {ops : Array Oper} {kd : Nat → Nat} {S' : World → Prop} (hS : ∀ w, S' w → S w) : ∀ (fuel : Nat) (listed : Array Bool) (a : Act) (w : World), wpAnyK P md ops Q S' kd fuel listed a w → wpAnyK P md ops Q S kd fuel listed a w
  | 0, _, _, _, hh => hh
  | fuel + 1, _, _, _, hh => ⟨hh.1, fun i hi => hOp_weaken hS (fun a w h' => wpAnyK_weaken hS fuel _ a w h') (hh.2 i hi)⟩
theorem goon_weaken {ops : Array Oper} {kd : Nat → Nat} {n : Nat} {listed : Array Bool} {a : Act} {w : World} (S' : World → Prop) (hS : ∀ w, S' w → S w) (h : GoOn P ops Q S' kd n listed a w) : GoOn P ops Q S kd n listed a w := fun inv => wpAnyK_weaken hS n listed a w (h inv)
end Go.Proofs.YtlclkeihkkpdbaaGreatDoor
