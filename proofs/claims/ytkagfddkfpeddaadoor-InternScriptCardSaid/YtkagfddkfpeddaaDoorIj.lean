/- InternBoth: a table and a row of names beside it; the plain laws. -/
import Derived.Test.YtkagfddkfpeddaaDoorIf
import Derived.Sort.Walk0
namespace Go.Proofs.YtkagfddkfpeddaaDoor
open Go.RowKit Go.Maps It

/-- A table, and a row of the call's own that holds the same names, in other blocks. -/
structure Beside (w : World) (B p q : Nat) (v : Value) (l : Nms) (vh : Value) (lh : Nms) : Prop where
  t : Tbl w B p q v l
  h : Ow nc 1 w B 9 vh lh
  ap : ∀ k, vh.ownBlock = some k → ¬ Tbl.In p q v k
section
variable {w w' : World} {B p q : Nat} {v vh : Value} {l lh : Nms}
theorem Ow.keep_ {w w' : World} {B : Nat} {e : TypeId} {v : Value} {l : Nms} (h : Ow nc 1 w B e v l) (hk : ∀ k, v.ownBlock = some k → w'.heap[k]? = w.heap[k]?) : Ow nc 1 w' B e v l := by
  refine ⟨h.1, ?_⟩
  rcases h.2 with h0 | ⟨g, cap, cur, rfl, h1, h2, h3⟩
  · exact .inl h0
  · exact .inr ⟨g, cap, cur, rfl, h1, (hk g rfl).trans h2, h3⟩
theorem Beside.below_ (h : Beside w B p q v l vh lh) (hb : Below w.heap.size w w') : Beside w' B p q v l vh lh :=
  ⟨h.t.below_ hb, h.h.keep_ fun k hk => hb.block k (h.h.lt hk).2, h.ap⟩
theorem Beside.drewN (h : Beside w B p q v l vh lh) (n : Nat) : Beside (w.drewN n) B p q v l vh lh := ⟨h.t.drewN n, h.h.drewN n, h.ap⟩
theorem Beside.add {x : List UInt8} {e : Ending} (h : Beside w B p q v l vh lh) (hA : Added w B p q v l x e w') :
    ∃ v', e = .returned (.tuple #[.int .i64 (addV l x), .int .i64 (addE l x)]) ∧ Beside w' B p q v' (addL l x) vh lh := by
  obtain ⟨v', he, ht, hs, hk, hv, _⟩ := hA
  refine ⟨v', he, ht, h.h.keep_ fun k hk1 => hk k (h.h.lt hk1).2 (h.ap k hk1), fun k hk1 h1 => ?_⟩
  have hlt := (h.h.lt hk1).2
  rcases h1 with h1 | h1 | h1
  · exact h.ap k hk1 (.inl h1)
  · exact h.ap k hk1 (.inr (.inl h1))
  · rcases hv with rfl | hv | ⟨g, hg, hge⟩
    · exact h.ap k hk1 (.inr (.inr h1))
    · exact h.ap k hk1 (.inr (.inr (by rw [← hv]; exact h1)))
    · rw [hg] at h1; injection h1 with h1; omega
/-- Behind an append to the row, the element in a block of its own ahead. -/
theorem Beside.append {o : Obj} {vh' : Value} {lh' : Nms} (h : Beside w B p q v l vh lh) (hown : Ow nc 1 w' B 9 vh' lh') (hg : (w.alloc o).grownBy w' vh.ownBlock) (hm : Moved (w.alloc o) vh vh') : Beside w' B p q v l vh' lh' := by
  have hsz : w.heap.size < (w.alloc o).heap.size := by simp
  refine ⟨h.t.keep fun k hk hin => ?_, hown, fun k hk hin => ?_⟩
  · rw [hg.block k (by omega) (fun e => h.ap k e.symm hin)]
    exact Below.heap_alloc w o k hk
  · rcases hm with e | ⟨g, e, hge⟩
    · rw [e] at hk; exact h.ap k hk hin
    · rw [e] at hk; injection hk with hk
      have := (h.t.in_lt hin).2
      omega
theorem Beside.belowB {W : World} {o : Obj} (h : Beside w B p q v l vh lh) (hb : Below B W w) (hB : B ≤ w.heap.size) (hg : (w.alloc o).grownBy w' vh.ownBlock) : Below B W w' :=
  (hb.alloc hB o).grown hg (by simp; omega) fun k hk => by have := (h.h.lt hk).1; omega
end
namespace It
theorem contains_snoc (l : Nms) (x y : List UInt8) : (l ++ [x]).contains y = (l.contains y || x == y) := by
  rw [Bool.eq_iff_iff, Bool.or_eq_true, List.contains_iff_mem, List.contains_iff_mem, List.mem_append, List.mem_singleton, beq_iff_eq]
  exact ⟨fun h => h.elim .inl fun h => .inr h.symm, fun h => h.elim .inl fun h => .inr h.symm⟩
theorem contains_take {l : Nms} {k : Nat} (hk : k < l.length) (y : List UInt8) : (l.take (k + 1)).contains y = ((l.take k).contains y || l[k] == y) := by
  rw [List.take_succ_eq_append_getElem hk, contains_snoc]
/-- Sorted names that are all unlike rise. -/
theorem srt_mem (l : Nms) (x : List UInt8) : x ∈ srt l ↔ x ∈ l := (List.mergeSort_perm l leB).mem_iff
theorem srt_lt {l : Nms} (hn : l.Nodup) {i : Nat} (hi : i + 1 < (srt l).length) : ¬ (srt l)[i + 1] ≤ (srt l)[i] := by
  have tr : ∀ a b c : List UInt8, leB a b = true → leB b c = true → leB a c = true := fun a b c h1 h2 => by simp only [leB, decide_eq_true_eq] at *; exact List.le_trans h1 h2
  have tt : ∀ a b : List UInt8, (leB a b || leB b a) = true := fun a b => by simp only [leB, Bool.or_eq_true, decide_eq_true_eq]; exact List.le_total a b
  have hp : (srt l).Pairwise (fun a b => leB a b = true) := List.pairwise_mergeSort tr tt l
  have h1 : leB (srt l)[i] (srt l)[i + 1] = true := List.pairwise_iff_getElem.1 hp i (i + 1) (by omega) hi (by omega)
  have hnd : (srt l).Nodup := (List.mergeSort_perm l leB).nodup_iff.2 hn
  have hne : (srt l)[i] ≠ (srt l)[i + 1] := List.pairwise_iff_getElem.1 hnd i (i + 1) (by omega) hi (by omega)
  intro h2
  simp only [leB, decide_eq_true_eq] at h1
  exact hne (List.le_antisymm h1 h2)
theorem srt_less {l : Nms} (hn : l.Nodup) {i : Nat} (hi : i + 1 < (srt l).length) : Op.bytesLess (ba (srt l)[i]).toList (ba (srt l)[i + 1]).toList = true := by
  rw [ba_toList, ba_toList, bytesLess_eq, decide_eq_true_eq]
  exact List.not_le.1 (srt_lt hn hi)
end It
end Go.Proofs.YtkagfddkfpeddaaDoor
