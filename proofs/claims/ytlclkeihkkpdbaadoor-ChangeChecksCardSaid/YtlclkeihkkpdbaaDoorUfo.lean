/- Four allocations of one kind, in whatever order: one tail. Printed by wip/bin/genufo.py; nothing of the program. -/
import Derived.Test.YtlclkeihkkpdbaaDoorUgo
import Derived.Test.YtlclkeihkkpdbaaDoorUn
namespace Go.Proofs.YtlclkeihkkpdbaaDoor
open Go Go.RowKit
variable {P : Program} {Q : Exit → Act → World → Prop} {S : World → Prop}
/-- These blocks are new, unlike, and hold Z; nothing else has been written. -/
structure MadeU (Z : Obj) (B : Nat) (w0 : World) (ps : List Nat) (W : World) : Prop where
  at_ : ∀ p ∈ ps, W.heap[p]? = some Z ∧ B < p
  nodup : ps.Nodup
  below : Below B w0 W
  old : ∀ o, w0.heap[B]? = some o → W.heap[B]? = some o
  lt : B < W.heap.size
theorem MadeU.step {t : TypeId} {cs : Array Value} {B : Nat} {w0 W : World} {ps : List Nat} (h : MadeU (.cells cs t (0, 0)) B w0 ps W) (m : Nat) : MadeU (.cells cs t (0, 0)) B w0 (W.heap.size :: ps) ((W.drewN m).alloc (.cells cs t)) := by
  have hlt : ∀ p ∈ ps, p < W.heap.size := fun p hp => (Array.getElem?_eq_some_iff.1 (h.at_ p hp).1).1
  have keep : ∀ c, c < W.heap.size → ((W.drewN m).alloc (.cells cs t)).heap[c]? = W.heap[c]? := fun c hc => Below.heap_alloc (W.drewN m) _ _ (by exact hc)
  refine ⟨fun p hp => ?_, ?_, ?_, fun o ho => (keep _ h.lt).trans (h.old o ho), ?_⟩
  · rcases List.mem_cons.1 hp with rfl | hp
    · exact ⟨heap_alloc_new (W.drewN m) _, h.lt⟩
    · exact ⟨(keep p (hlt p hp)).trans (h.at_ p hp).1, (h.at_ p hp).2⟩
  · rw [List.nodup_cons]
    exact ⟨fun hm => Nat.lt_irrefl _ (hlt _ hm), h.nodup⟩
  · exact (below_drewN h.below m).alloc (by exact Nat.le_of_lt h.lt) _
  · have : ((W.drewN m).alloc (.cells cs t)).heap.size = W.heap.size + 1 := by simp [World.drewN]
    rw [this]; exact Nat.lt_succ_of_lt h.lt
theorem MadeU.like {Z : Obj} {B : Nat} {w0 W : World} {ps qs : List Nat} (h : MadeU Z B w0 ps W) (hs : ∀ x ∈ qs, x ∈ ps) (hn : ps.Nodup → qs.Nodup) : MadeU Z B w0 qs W :=
  ⟨fun p hp => h.at_ p (hs p hp), hn h.nodup, h.below, h.old, h.lt⟩
abbrev ptrU (p : Nat) : Value := .pointer (some ⟨p, 0, none⟩)
theorem goon_alloc4 {l : List Oper} {s1 s2 hd fr : List Nat} (cs : Array Value) (t : TypeId) (B : Nat) (w2 : World) (lst : Bool → Bool → Bool → Bool → Array Bool)
    (hset : ∀ a b c d, (lst a b c d).setIfInBounds 4 true = lst true b c d ∧ (lst a b c d).setIfInBounds 5 true = lst a true c d ∧ (lst a b c d).setIfInBounds 6 true = lst a b true d ∧ (lst a b c d).setIfInBounds 7 true = lst a b c true)
    (hready : ∀ a b c d, (a && b && c && d) = false → Region.ready .any l.toArray (lst a b c d) = ((if a then [] else [4]) ++ ((if b then [] else [5]) ++ ((if c then [] else [6]) ++ (if d then [] else [7])))))
    (act : Value → Value → Value → Value → Act)
    (h6 : ∀ a b c d u, (act a b c d).put (some 6) u = act u b c d) (h7 : ∀ a b c d u, (act a b c d).put (some 7) u = act a u c d) (h8 : ∀ a b c d u, (act a b c d).put (some 8) u = act a b u d) (h9 : ∀ a b c d u, (act a b c d).put (some 9) u = act a b c u)
    (hop : ∀ i d, (i, d) ∈ [(4, 6), (5, 7), (6, 8), (7, 9)] → ∀ a W (K : Act → World → Prop), (∀ m, S ((W.drewN m).alloc (.cells cs t)) ∧ K (a.put (some d) (ptrU W.heap.size)) ((W.drewN m).alloc (.cells cs t))) → hOp P l.toArray (NoPanic Q) S (kdL s1 s2 hd fr) i K a W)
    (hS : ∀ ps W, MadeU (.cells cs t (0, 0)) B w2 ps W → S W)
    (hw : B < w2.heap.size)
    (tail : ∀ p6 p7 p8 p9 W, MadeU (.cells cs t (0, 0)) B w2 [p6, p7, p8, p9] W → GoOn P l.toArray (NoPanic Q) S (kdL s1 s2 hd fr) 4 (lst true true true true) (act (ptrU p6) (ptrU p7) (ptrU p8) (ptrU p9)) W) :
    GoOn P l.toArray (NoPanic Q) S (kdL s1 s2 hd fr) 8 (lst false false false false) (act undef undef undef undef) w2 := by
  have s1111 := tail
  have s1110 : ∀ p6 p7 p8 W, MadeU (.cells cs t (0, 0)) B w2 [p6, p7, p8] W → GoOn P l.toArray (NoPanic Q) S (kdL s1 s2 hd fr) 5 (lst true true true false) (act (ptrU p6) (ptrU p7) (ptrU p8) undef) W := by
    intro p6 p7 p8 W hM
    refine goon_any [7] (by simp) (hready true true true false rfl) ?_
    intro i hi
    simp only [List.mem_cons, List.not_mem_nil, or_false] at hi
    rcases hi with rfl
    · refine hop 7 9 (by simp) _ _ _ fun m => ⟨hS _ _ (hM.step m), ?_⟩
      rw [(hset _ _ _ _).2.2.2, h9]
      exact s1111 p6 p7 p8 _ _ ((hM.step m).like (by simp) (by first | (intro h; simp at h ⊢; omega) | exact fun _ => by simp))
  have s1101 : ∀ p6 p7 p9 W, MadeU (.cells cs t (0, 0)) B w2 [p6, p7, p9] W → GoOn P l.toArray (NoPanic Q) S (kdL s1 s2 hd fr) 5 (lst true true false true) (act (ptrU p6) (ptrU p7) undef (ptrU p9)) W := by
    intro p6 p7 p9 W hM
    refine goon_any [6] (by simp) (hready true true false true rfl) ?_
    intro i hi
    simp only [List.mem_cons, List.not_mem_nil, or_false] at hi
    rcases hi with rfl
    · refine hop 6 8 (by simp) _ _ _ fun m => ⟨hS _ _ (hM.step m), ?_⟩
      rw [(hset _ _ _ _).2.2.1, h8]
      exact s1111 p6 p7 _ p9 _ ((hM.step m).like (by simp) (by first | (intro h; simp at h ⊢; omega) | exact fun _ => by simp))
  have s1011 : ∀ p6 p8 p9 W, MadeU (.cells cs t (0, 0)) B w2 [p6, p8, p9] W → GoOn P l.toArray (NoPanic Q) S (kdL s1 s2 hd fr) 5 (lst true false true true) (act (ptrU p6) undef (ptrU p8) (ptrU p9)) W := by
    intro p6 p8 p9 W hM
    refine goon_any [5] (by simp) (hready true false true true rfl) ?_
    intro i hi
    simp only [List.mem_cons, List.not_mem_nil, or_false] at hi
    rcases hi with rfl
    · refine hop 5 7 (by simp) _ _ _ fun m => ⟨hS _ _ (hM.step m), ?_⟩
      rw [(hset _ _ _ _).2.1, h7]
      exact s1111 p6 _ p8 p9 _ ((hM.step m).like (by simp) (by first | (intro h; simp at h ⊢; omega) | exact fun _ => by simp))
  have s0111 : ∀ p7 p8 p9 W, MadeU (.cells cs t (0, 0)) B w2 [p7, p8, p9] W → GoOn P l.toArray (NoPanic Q) S (kdL s1 s2 hd fr) 5 (lst false true true true) (act undef (ptrU p7) (ptrU p8) (ptrU p9)) W := by
    intro p7 p8 p9 W hM
    refine goon_any [4] (by simp) (hready false true true true rfl) ?_
    intro i hi
    simp only [List.mem_cons, List.not_mem_nil, or_false] at hi
    rcases hi with rfl
    · refine hop 4 6 (by simp) _ _ _ fun m => ⟨hS _ _ (hM.step m), ?_⟩
      rw [(hset _ _ _ _).1, h6]
      exact s1111 _ p7 p8 p9 _ ((hM.step m).like (by simp) (by first | (intro h; simp at h ⊢; omega) | exact fun _ => by simp))
  have s1100 : ∀ p6 p7 W, MadeU (.cells cs t (0, 0)) B w2 [p6, p7] W → GoOn P l.toArray (NoPanic Q) S (kdL s1 s2 hd fr) 6 (lst true true false false) (act (ptrU p6) (ptrU p7) undef undef) W := by
    intro p6 p7 W hM
    refine goon_any [6, 7] (by simp) (hready true true false false rfl) ?_
    intro i hi
    simp only [List.mem_cons, List.not_mem_nil, or_false] at hi
    rcases hi with rfl | rfl
    · refine hop 6 8 (by simp) _ _ _ fun m => ⟨hS _ _ (hM.step m), ?_⟩
      rw [(hset _ _ _ _).2.2.1, h8]
      exact s1110 p6 p7 _ _ ((hM.step m).like (by simp) (by first | (intro h; simp at h ⊢; omega) | exact fun _ => by simp))
    · refine hop 7 9 (by simp) _ _ _ fun m => ⟨hS _ _ (hM.step m), ?_⟩
      rw [(hset _ _ _ _).2.2.2, h9]
      exact s1101 p6 p7 _ _ ((hM.step m).like (by simp) (by first | (intro h; simp at h ⊢; omega) | exact fun _ => by simp))
  have s1010 : ∀ p6 p8 W, MadeU (.cells cs t (0, 0)) B w2 [p6, p8] W → GoOn P l.toArray (NoPanic Q) S (kdL s1 s2 hd fr) 6 (lst true false true false) (act (ptrU p6) undef (ptrU p8) undef) W := by
    intro p6 p8 W hM
    refine goon_any [5, 7] (by simp) (hready true false true false rfl) ?_
    intro i hi
    simp only [List.mem_cons, List.not_mem_nil, or_false] at hi
    rcases hi with rfl | rfl
    · refine hop 5 7 (by simp) _ _ _ fun m => ⟨hS _ _ (hM.step m), ?_⟩
      rw [(hset _ _ _ _).2.1, h7]
      exact s1110 p6 _ p8 _ ((hM.step m).like (by simp) (by first | (intro h; simp at h ⊢; omega) | exact fun _ => by simp))
    · refine hop 7 9 (by simp) _ _ _ fun m => ⟨hS _ _ (hM.step m), ?_⟩
      rw [(hset _ _ _ _).2.2.2, h9]
      exact s1011 p6 p8 _ _ ((hM.step m).like (by simp) (by first | (intro h; simp at h ⊢; omega) | exact fun _ => by simp))
  have s1001 : ∀ p6 p9 W, MadeU (.cells cs t (0, 0)) B w2 [p6, p9] W → GoOn P l.toArray (NoPanic Q) S (kdL s1 s2 hd fr) 6 (lst true false false true) (act (ptrU p6) undef undef (ptrU p9)) W := by
    intro p6 p9 W hM
    refine goon_any [5, 6] (by simp) (hready true false false true rfl) ?_
    intro i hi
    simp only [List.mem_cons, List.not_mem_nil, or_false] at hi
    rcases hi with rfl | rfl
    · refine hop 5 7 (by simp) _ _ _ fun m => ⟨hS _ _ (hM.step m), ?_⟩
      rw [(hset _ _ _ _).2.1, h7]
      exact s1101 p6 _ p9 _ ((hM.step m).like (by simp) (by first | (intro h; simp at h ⊢; omega) | exact fun _ => by simp))
    · refine hop 6 8 (by simp) _ _ _ fun m => ⟨hS _ _ (hM.step m), ?_⟩
      rw [(hset _ _ _ _).2.2.1, h8]
      exact s1011 p6 _ p9 _ ((hM.step m).like (by simp) (by first | (intro h; simp at h ⊢; omega) | exact fun _ => by simp))
  have s0110 : ∀ p7 p8 W, MadeU (.cells cs t (0, 0)) B w2 [p7, p8] W → GoOn P l.toArray (NoPanic Q) S (kdL s1 s2 hd fr) 6 (lst false true true false) (act undef (ptrU p7) (ptrU p8) undef) W := by
    intro p7 p8 W hM
    refine goon_any [4, 7] (by simp) (hready false true true false rfl) ?_
    intro i hi
    simp only [List.mem_cons, List.not_mem_nil, or_false] at hi
    rcases hi with rfl | rfl
    · refine hop 4 6 (by simp) _ _ _ fun m => ⟨hS _ _ (hM.step m), ?_⟩
      rw [(hset _ _ _ _).1, h6]
      exact s1110 _ p7 p8 _ ((hM.step m).like (by simp) (by first | (intro h; simp at h ⊢; omega) | exact fun _ => by simp))
    · refine hop 7 9 (by simp) _ _ _ fun m => ⟨hS _ _ (hM.step m), ?_⟩
      rw [(hset _ _ _ _).2.2.2, h9]
      exact s0111 p7 p8 _ _ ((hM.step m).like (by simp) (by first | (intro h; simp at h ⊢; omega) | exact fun _ => by simp))
  have s0101 : ∀ p7 p9 W, MadeU (.cells cs t (0, 0)) B w2 [p7, p9] W → GoOn P l.toArray (NoPanic Q) S (kdL s1 s2 hd fr) 6 (lst false true false true) (act undef (ptrU p7) undef (ptrU p9)) W := by
    intro p7 p9 W hM
    refine goon_any [4, 6] (by simp) (hready false true false true rfl) ?_
    intro i hi
    simp only [List.mem_cons, List.not_mem_nil, or_false] at hi
    rcases hi with rfl | rfl
    · refine hop 4 6 (by simp) _ _ _ fun m => ⟨hS _ _ (hM.step m), ?_⟩
      rw [(hset _ _ _ _).1, h6]
      exact s1101 _ p7 p9 _ ((hM.step m).like (by simp) (by first | (intro h; simp at h ⊢; omega) | exact fun _ => by simp))
    · refine hop 6 8 (by simp) _ _ _ fun m => ⟨hS _ _ (hM.step m), ?_⟩
      rw [(hset _ _ _ _).2.2.1, h8]
      exact s0111 p7 _ p9 _ ((hM.step m).like (by simp) (by first | (intro h; simp at h ⊢; omega) | exact fun _ => by simp))
  have s0011 : ∀ p8 p9 W, MadeU (.cells cs t (0, 0)) B w2 [p8, p9] W → GoOn P l.toArray (NoPanic Q) S (kdL s1 s2 hd fr) 6 (lst false false true true) (act undef undef (ptrU p8) (ptrU p9)) W := by
    intro p8 p9 W hM
    refine goon_any [4, 5] (by simp) (hready false false true true rfl) ?_
    intro i hi
    simp only [List.mem_cons, List.not_mem_nil, or_false] at hi
    rcases hi with rfl | rfl
    · refine hop 4 6 (by simp) _ _ _ fun m => ⟨hS _ _ (hM.step m), ?_⟩
      rw [(hset _ _ _ _).1, h6]
      exact s1011 _ p8 p9 _ ((hM.step m).like (by simp) (by first | (intro h; simp at h ⊢; omega) | exact fun _ => by simp))
    · refine hop 5 7 (by simp) _ _ _ fun m => ⟨hS _ _ (hM.step m), ?_⟩
      rw [(hset _ _ _ _).2.1, h7]
      exact s0111 _ p8 p9 _ ((hM.step m).like (by simp) (by first | (intro h; simp at h ⊢; omega) | exact fun _ => by simp))
  have s1000 : ∀ p6 W, MadeU (.cells cs t (0, 0)) B w2 [p6] W → GoOn P l.toArray (NoPanic Q) S (kdL s1 s2 hd fr) 7 (lst true false false false) (act (ptrU p6) undef undef undef) W := by
    intro p6 W hM
    refine goon_any [5, 6, 7] (by simp) (hready true false false false rfl) ?_
    intro i hi
    simp only [List.mem_cons, List.not_mem_nil, or_false] at hi
    rcases hi with rfl | rfl | rfl
    · refine hop 5 7 (by simp) _ _ _ fun m => ⟨hS _ _ (hM.step m), ?_⟩
      rw [(hset _ _ _ _).2.1, h7]
      exact s1100 p6 _ _ ((hM.step m).like (by simp) (by first | (intro h; simp at h ⊢; omega) | exact fun _ => by simp))
    · refine hop 6 8 (by simp) _ _ _ fun m => ⟨hS _ _ (hM.step m), ?_⟩
      rw [(hset _ _ _ _).2.2.1, h8]
      exact s1010 p6 _ _ ((hM.step m).like (by simp) (by first | (intro h; simp at h ⊢; omega) | exact fun _ => by simp))
    · refine hop 7 9 (by simp) _ _ _ fun m => ⟨hS _ _ (hM.step m), ?_⟩
      rw [(hset _ _ _ _).2.2.2, h9]
      exact s1001 p6 _ _ ((hM.step m).like (by simp) (by first | (intro h; simp at h ⊢; omega) | exact fun _ => by simp))
  have s0100 : ∀ p7 W, MadeU (.cells cs t (0, 0)) B w2 [p7] W → GoOn P l.toArray (NoPanic Q) S (kdL s1 s2 hd fr) 7 (lst false true false false) (act undef (ptrU p7) undef undef) W := by
    intro p7 W hM
    refine goon_any [4, 6, 7] (by simp) (hready false true false false rfl) ?_
    intro i hi
    simp only [List.mem_cons, List.not_mem_nil, or_false] at hi
    rcases hi with rfl | rfl | rfl
    · refine hop 4 6 (by simp) _ _ _ fun m => ⟨hS _ _ (hM.step m), ?_⟩
      rw [(hset _ _ _ _).1, h6]
      exact s1100 _ p7 _ ((hM.step m).like (by simp) (by first | (intro h; simp at h ⊢; omega) | exact fun _ => by simp))
    · refine hop 6 8 (by simp) _ _ _ fun m => ⟨hS _ _ (hM.step m), ?_⟩
      rw [(hset _ _ _ _).2.2.1, h8]
      exact s0110 p7 _ _ ((hM.step m).like (by simp) (by first | (intro h; simp at h ⊢; omega) | exact fun _ => by simp))
    · refine hop 7 9 (by simp) _ _ _ fun m => ⟨hS _ _ (hM.step m), ?_⟩
      rw [(hset _ _ _ _).2.2.2, h9]
      exact s0101 p7 _ _ ((hM.step m).like (by simp) (by first | (intro h; simp at h ⊢; omega) | exact fun _ => by simp))
  have s0010 : ∀ p8 W, MadeU (.cells cs t (0, 0)) B w2 [p8] W → GoOn P l.toArray (NoPanic Q) S (kdL s1 s2 hd fr) 7 (lst false false true false) (act undef undef (ptrU p8) undef) W := by
    intro p8 W hM
    refine goon_any [4, 5, 7] (by simp) (hready false false true false rfl) ?_
    intro i hi
    simp only [List.mem_cons, List.not_mem_nil, or_false] at hi
    rcases hi with rfl | rfl | rfl
    · refine hop 4 6 (by simp) _ _ _ fun m => ⟨hS _ _ (hM.step m), ?_⟩
      rw [(hset _ _ _ _).1, h6]
      exact s1010 _ p8 _ ((hM.step m).like (by simp) (by first | (intro h; simp at h ⊢; omega) | exact fun _ => by simp))
    · refine hop 5 7 (by simp) _ _ _ fun m => ⟨hS _ _ (hM.step m), ?_⟩
      rw [(hset _ _ _ _).2.1, h7]
      exact s0110 _ p8 _ ((hM.step m).like (by simp) (by first | (intro h; simp at h ⊢; omega) | exact fun _ => by simp))
    · refine hop 7 9 (by simp) _ _ _ fun m => ⟨hS _ _ (hM.step m), ?_⟩
      rw [(hset _ _ _ _).2.2.2, h9]
      exact s0011 p8 _ _ ((hM.step m).like (by simp) (by first | (intro h; simp at h ⊢; omega) | exact fun _ => by simp))
  have s0001 : ∀ p9 W, MadeU (.cells cs t (0, 0)) B w2 [p9] W → GoOn P l.toArray (NoPanic Q) S (kdL s1 s2 hd fr) 7 (lst false false false true) (act undef undef undef (ptrU p9)) W := by
    intro p9 W hM
    refine goon_any [4, 5, 6] (by simp) (hready false false false true rfl) ?_
    intro i hi
    simp only [List.mem_cons, List.not_mem_nil, or_false] at hi
    rcases hi with rfl | rfl | rfl
    · refine hop 4 6 (by simp) _ _ _ fun m => ⟨hS _ _ (hM.step m), ?_⟩
      rw [(hset _ _ _ _).1, h6]
      exact s1001 _ p9 _ ((hM.step m).like (by simp) (by first | (intro h; simp at h ⊢; omega) | exact fun _ => by simp))
    · refine hop 5 7 (by simp) _ _ _ fun m => ⟨hS _ _ (hM.step m), ?_⟩
      rw [(hset _ _ _ _).2.1, h7]
      exact s0101 _ p9 _ ((hM.step m).like (by simp) (by first | (intro h; simp at h ⊢; omega) | exact fun _ => by simp))
    · refine hop 6 8 (by simp) _ _ _ fun m => ⟨hS _ _ (hM.step m), ?_⟩
      rw [(hset _ _ _ _).2.2.1, h8]
      exact s0011 _ p9 _ ((hM.step m).like (by simp) (by first | (intro h; simp at h ⊢; omega) | exact fun _ => by simp))
  have s0000 : ∀ W, MadeU (.cells cs t (0, 0)) B w2 [] W → GoOn P l.toArray (NoPanic Q) S (kdL s1 s2 hd fr) 8 (lst false false false false) (act undef undef undef undef) W := by
    intro W hM
    refine goon_any [4, 5, 6, 7] (by simp) (hready false false false false rfl) ?_
    intro i hi
    simp only [List.mem_cons, List.not_mem_nil, or_false] at hi
    rcases hi with rfl | rfl | rfl | rfl
    · refine hop 4 6 (by simp) _ _ _ fun m => ⟨hS _ _ (hM.step m), ?_⟩
      rw [(hset _ _ _ _).1, h6]
      exact s1000 _ _ ((hM.step m).like (by simp) (by first | (intro h; simp at h ⊢; omega) | exact fun _ => by simp))
    · refine hop 5 7 (by simp) _ _ _ fun m => ⟨hS _ _ (hM.step m), ?_⟩
      rw [(hset _ _ _ _).2.1, h7]
      exact s0100 _ _ ((hM.step m).like (by simp) (by first | (intro h; simp at h ⊢; omega) | exact fun _ => by simp))
    · refine hop 6 8 (by simp) _ _ _ fun m => ⟨hS _ _ (hM.step m), ?_⟩
      rw [(hset _ _ _ _).2.2.1, h8]
      exact s0010 _ _ ((hM.step m).like (by simp) (by first | (intro h; simp at h ⊢; omega) | exact fun _ => by simp))
    · refine hop 7 9 (by simp) _ _ _ fun m => ⟨hS _ _ (hM.step m), ?_⟩
      rw [(hset _ _ _ _).2.2.2, h9]
      exact s0001 _ _ ((hM.step m).like (by simp) (by first | (intro h; simp at h ⊢; omega) | exact fun _ => by simp))
  exact s0000 w2 ⟨fun p hp => (by cases hp), List.nodup_nil, Below.refl _ _, fun o ho => ho, hw⟩
/-- The act behind a name. -/
theorem goon_act {ops : Array Oper} {kd : Nat → Nat} {n : Nat} {listed : Array Bool} {a : Act} {w : World} (h : ∀ a0, a0 = a → GoOn P ops Q S kd n listed a0 w) : GoOn P ops Q S kd n listed a w := h a rfl
end Go.Proofs.YtlclkeihkkpdbaaDoor
