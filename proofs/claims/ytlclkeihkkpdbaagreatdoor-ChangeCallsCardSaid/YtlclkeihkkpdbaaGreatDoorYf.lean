/- The walk of timetableref17.parts. Printed by wip/bin/genyf.py. -/
import Derived.Test.YtlclkeihkkpdbaaGreatDoorUgo
import Derived.Test.YtlclkeihkkpdbaaGreatDoorUtx
namespace Go.Proofs.YtlclkeihkkpdbaaGreatDoor
open Go.RowKit
/-- A part's cells: the update in block bu, its two numbers in blocks bn, bp. -/
def pdc (bu bn bp : Nat) : Fld → List Value
  | .word w => [.string (ba w), .pointer none, .pointer none, .int .i64 0]
  | .name => [.string ⟨#[]⟩, .pointer (some ⟨bu, 1, none⟩), .pointer none, .int .i64 0]
  | .num off low => [.string ⟨#[]⟩, .pointer none, .pointer (some (if off = 8 then ⟨bn, 0, none⟩ else if off = 9 then ⟨bp, 0, none⟩ else ⟨bu, off, none⟩)), .int .i64 low]
theorem pdc_len (bu bn bp : Nat) : ∀ x, (pdc bu bn bp x).length = 4 := by intro x; cases x <;> rfl
theorem pdc_one (bu bn bp : Nat) : ∀ x, ∀ u ∈ pdc bu bn bp x, u.oneCell' = true := by intro x u hu; cases x <;> simp [pdc] at hu <;> rcases hu with rfl | rfl | rfl | rfl <;> rfl
theorem info_part : (Tryz.prog.info? 68).map (fun i => (i.zero, i.size, i.bytes)) = some (some (.agg #[.string ByteArray.empty, .pointer none, .pointer none, .int .i64 0]), 4, 40) := by kernel_rfl
theorem Sl.at_block {α : Type} {c : α → List Value} {size : Nat} {w : World} {H o n cap : Nat} {l : List α} {P P' : Nat → Prop} (h : Sl c size w (.slice (some ⟨H, o, none⟩) n cap) l P) (hp : P' H) : Sl c size w (.slice (some ⟨H, o, none⟩) n cap) l P' := by
  obtain ⟨A, cp, e, h1, h2, h3⟩ := h
  refine ⟨A, cp, e, h1, h2, fun hn => ?_⟩
  obtain ⟨b, off, hA, hlt, _, hx⟩ := h3 hn
  refine ⟨b, off, hA, hlt, ?_, hx⟩
  have e1 := (Value.slice.inj e).1
  rw [hA] at e1
  have e2 := (Addr.mk.inj (Option.some.inj e1)).1
  rw [← e2]; exact hp
theorem growP (W : World) (m : Nat) (o : Obj) : W.heap.size ≤ ((W.drewN m).alloc o).heap.size := by simp [World.drewN]
theorem kept_allocP {W : World} {q : Nat} {o x : Obj} (h : W.heap[q]? = some o) (n : Nat) : ((W.drewN n).alloc x).heap[q]? = some o := by
  rw [Below.heap_alloc _ _ _ (by exact (Array.getElem?_eq_some_iff.1 h).1)]; exact h
theorem Ow.newlP {α : Type} {c : α → List Value} {size : Nat} {w : World} {H n base : Nat} {t : TypeId} {cs : Array Value} (l : List α) (hc : ∀ a, (c a).length = size) (hcs : cs.toList = l.flatMap c) (hn : l.length = n) (hm : n ≤ maxLen) (hH : w.heap.size = H) (hb : base ≤ H) :
    Ow c size (w.alloc (.cells cs t)) base t (.slice (some ⟨H, 0, none⟩) n n) l := by
  subst hH hn
  have hl : (l.flatMap c).length = l.length * size := flat_length hc l
  refine ⟨by rw [hl], .inr ⟨w.heap.size, l.length, cs, rfl, hb, heap_alloc_new w _, Nat.le_refl _, hm, by rw [← Array.length_toList, hcs, hl], by rw [hcs, List.take_of_length_le (by rw [hl]; exact Nat.le_refl _)]⟩⟩
def timesF : List Fld := [.word kFrom, .num 5 0, .word kEvery, .num 6 0]
set_option maxHeartbeats 16000000 in
set_option maxRecDepth 100000 in
theorem parts_any (k : Int) (bu bn bp : Nat) (w : World) : Calls Tryz.prog 23 #[.int .i64 k, .pointer (some ⟨bu, 0, none⟩), .pointer (some ⟨bn, 0, none⟩), .pointer (some ⟨bp, 0, none⟩)] w fun e w' =>
    ∃ v, e = .returned v ∧ Sl (pdc bu bn bp) 4 w' v (formD k) (fun b => w.heap.size ≤ b) ∧ Below w.heap.size w w' := by
  obtain ⟨i0, hi0, hz0, hz1, hz2⟩ := info_parts info_part
  go_enter Tryz.func23, Tryz.ntmps23
  go_wp2_with fail
  obtain ⟨w1, hw1⟩ : ∃ w1, w.alloc (.cells #[.string ⟨#[]⟩, .pointer (some ⟨bu, 1, none⟩), .pointer none, .int .i64 0] 68) = w1 := ⟨_, rfl⟩
  have HN1 := Lib.hid (show w1.heap[w.heap.size]? = some (.cells #[.string ⟨#[]⟩, .pointer (some ⟨bu, 1, none⟩), .pointer none, .int .i64 0] 68 (0, 0)) by rw [← hw1]; exact heap_alloc_new _ _)
  have Y1 := Lib.hid (show w1.heap.size = w.heap.size + 1 by rw [← hw1]; simp)
  have HB1 := Lib.hid (show Below w.heap.size w w1 by rw [← hw1]; exact (Below.refl _ _).alloc (Nat.le_refl _) _)
  rw [hw1]
  clear hw1
  refine wp_region_kinds (fun _ => True) [] [12] [] [0, 1, 2, 3, 4, 5, 6, 7, 8, 9, 10, 11, 13] [0, 1, 2, 3, 4, 5, 6, 7, 8, 9, 10, 11, 12, 13] (by kernel_rfl) (by kernel_rfl) (fun _ _ h => h) ?_
  repeat (first | (refine wpKind_free (v := ?_) (by rfl) rfl (by rfl) ?_ ?_; rotate_left 1; (focus (intro wy; go_simp; try with_reducible rfl; done)); try simp only [Act.put, List.setIfInBounds_toArray, List.set_cons_zero, List.set_cons_succ]))
  refine wpKind_serial (by rfl) rfl (fun m1 => ?_)
  go_wp2_with fail
  obtain ⟨w2, hw2⟩ : ∃ w2, (w1.drewN m1).alloc (.cells #[.string ⟨#[102, 114, 111, 109]⟩, .pointer none, .pointer none, .int .i64 0, .string ⟨#[]⟩, .pointer none, .pointer (some ⟨bu, 5, none⟩), .int .i64 0, .string ⟨#[101, 118, 101, 114, 121]⟩, .pointer none, .pointer none, .int .i64 0, .string ⟨#[]⟩, .pointer none, .pointer (some ⟨bu, 6, none⟩), .int .i64 0] 68) = w2 := ⟨_, rfl⟩
  have HO2 := Lib.hid (show Ow (pdc bu bn bp) 4 w2 (w.heap.size + 1) 68 (.slice (some ⟨w1.heap.size, 0, none⟩) 4 4) timesF by rw [← hw2]; exact Ow.newlP timesF (pdc_len _ _ _) rfl rfl (by decide) rfl (by rw [Y1.out]; exact Nat.le_refl _))
  have HN2 := Lib.hid (show w2.heap[w.heap.size]? = some (.cells #[.string ⟨#[]⟩, .pointer (some ⟨bu, 1, none⟩), .pointer none, .int .i64 0] 68 (0, 0)) by rw [← hw2]; exact kept_allocP HN1.out m1)
  have HB2 := Lib.hid (show Below w.heap.size w w2 by rw [← hw2]; exact (below_drewN HB1.out m1).alloc (by exact HB1.out.size) _)
  rw [hw2]
  clear hw2
  show wpKind _ _ _ _ _ _ _ _ _
  repeat (first | (refine wpKind_free (v := ?_) (by rfl) rfl (by rfl) ?_ ?_; rotate_left 1; (focus (intro wy; go_simp; try with_reducible rfl; done)); try simp only [Act.put, List.setIfInBounds_toArray, List.set_cons_zero, List.set_cons_succ]))
  refine wpKind_nil fun m2 => ?_
  obtain ⟨w3, hw3⟩ : ∃ w3, w2.drewN m2 = w3 := ⟨_, rfl⟩
  have HO3 := Lib.hid (show Ow (pdc bu bn bp) 4 w3 (w.heap.size + 1) 68 (.slice (some ⟨w1.heap.size, 0, none⟩) 4 4) timesF by rw [← hw3]; exact HO2.out.drewN m2)
  have hn3 : w3.heap[w.heap.size]? = some (.cells #[.string ⟨#[]⟩, .pointer (some ⟨bu, 1, none⟩), .pointer none, .int .i64 0] 68 (0, 0)) := by rw [← hw3]; exact HN2.out
  have HB3 := Lib.hid (show Below w.heap.size w w3 by rw [← hw3]; exact below_drewN HB2.out m2)
  rw [hw3]
  clear hw3 HO2 HN2 HB2 HN1 HB1
  have HN3 := Lib.hid hn3
  have n0 : w3.cell? ⟨w.heap.size, 0, none⟩ = some (.string ⟨#[]⟩) := Lib.cell_of_heap hn3 0
  have n1 : w3.cell? ⟨w.heap.size, 1, none⟩ = some (.pointer (some ⟨bu, 1, none⟩)) := Lib.cell_of_heap hn3 1
  have n2 : w3.cell? ⟨w.heap.size, 2, none⟩ = some (.pointer none) := Lib.cell_of_heap hn3 2
  have n3 : w3.cell? ⟨w.heap.size, 3, none⟩ = some (.int .i64 0) := Lib.cell_of_heap hn3 3
  by_cases k1 : k = 1
  · subst k1
    go_upto_region 5 with fail
    clear n0 n1 n2 n3
    have hSw : w3.heap[w.heap.size]? = some (.cells #[.string ⟨#[]⟩, .pointer (some ⟨bu, 1, none⟩), .pointer none, .int .i64 0] 68 (0, 0)) := hn3
    refine wp_region_kinds (fun wy : World => wy.heap[w.heap.size]? = some (.cells #[.string ⟨#[]⟩, .pointer (some ⟨bu, 1, none⟩), .pointer none, .int .i64 0] 68 (0, 0))) [] [12] [1] [0, 2, 3, 4, 5, 6, 7, 8, 9, 10, 11, 13] [0, 1, 2, 3, 4, 5, 6, 7, 8, 9, 10, 11, 12, 13] (by kernel_rfl) (by kernel_rfl) (fun _ _ h => h) ?_
    repeat (first | (refine wpKind_free (v := ?_) (by rfl) rfl (by rfl) ?_ ?_; rotate_left 1; (focus (intro wy; go_simp; try with_reducible rfl; done)); try simp only [Act.put, List.setIfInBounds_toArray, List.set_cons_zero, List.set_cons_succ]) | (refine wpKind_held (v := ?_) (by rfl) rfl (by rfl) hSw ?_ ?_; rotate_left 1; (focus (intro wy hSy; have s0 : wy.cell? ⟨w.heap.size, 0, none⟩ = some (.string ⟨#[]⟩) := Lib.cell_of_heap hSy 0; have s1 : wy.cell? ⟨w.heap.size, 1, none⟩ = some (.pointer (some ⟨bu, 1, none⟩)) := Lib.cell_of_heap hSy 1; have s2 : wy.cell? ⟨w.heap.size, 2, none⟩ = some (.pointer none) := Lib.cell_of_heap hSy 2; have s3 : wy.cell? ⟨w.heap.size, 3, none⟩ = some (.int .i64 0) := Lib.cell_of_heap hSy 3; go_simp; try with_reducible rfl; done)); try simp only [Act.put, List.setIfInBounds_toArray, List.set_cons_zero, List.set_cons_succ]))
    refine wpKind_serial (by rfl) rfl (fun m3 => ?_)
    go_wp2_with fail
    obtain ⟨w4, hw4⟩ : ∃ w4, (w3.drewN m3).alloc (.cells #[.string ⟨#[100, 101, 108, 97, 121]⟩, .pointer none, .pointer none, .int .i64 0, .string ⟨#[]⟩, .pointer (some ⟨bu, 1, none⟩), .pointer none, .int .i64 0, .string ⟨#[]⟩, .pointer none, .pointer (some ⟨bn, 0, none⟩), .int .i64 0, .string ⟨#[102, 114, 111, 109]⟩, .pointer none, .pointer none, .int .i64 0, .string ⟨#[]⟩, .pointer none, .pointer (some ⟨bp, 0, none⟩), .int .i64 0, .string ⟨#[98, 121]⟩, .pointer none, .pointer none, .int .i64 0, .string ⟨#[]⟩, .pointer none, .pointer (some ⟨bu, 4, none⟩), .int .i64 1] 68) = w4 := ⟨_, rfl⟩
    have hs4 : Sl (pdc bu bn bp) 4 w4 (.slice (some ⟨w3.heap.size, 0, none⟩) 7 7) (formD 1) (fun _ => True) := by rw [form1, ← hw4]; exact Sl.newl _ (pdc_len _ _ _) rfl rfl (by decide) rfl
    have hb4 : Below w.heap.size w w4 := by rw [← hw4]; exact (below_drewN HB3.out m3).alloc (by exact HB3.out.size) _
    rw [hw4]
    clear hw4
    show wpKind _ _ _ _ _ _ _ _ _
    repeat (first | (refine wpKind_free (v := ?_) (by rfl) rfl (by rfl) ?_ ?_; rotate_left 1; (focus (intro wy; go_simp; try with_reducible rfl; done)); try simp only [Act.put, List.setIfInBounds_toArray, List.set_cons_zero, List.set_cons_succ]))
    refine wpKind_nil fun m4 => ?_
    go_wp2_with fail
    go_ret
    exact ⟨_, rfl, (hs4.drewN m4).at_block HB3.out.size, below_drewN hb4 m4⟩
  have e1 : (k == 1) = false := beq_eq_false_iff_ne.2 k1
  by_cases k2 : k = 2
  · subst k2
    go_wp2_with fail
    go_ret
    refine ⟨_, rfl, ?_, HB3.out.alloc HB3.out.size _⟩
    rw [form2]
    refine Sl.at_block (P := fun _ => True) ?_ HB3.out.size
    exact Sl.newl _ (pdc_len _ _ _) rfl rfl (by decide) rfl
  have e2 : (k == 2) = false := beq_eq_false_iff_ne.2 k2
  by_cases k3 : k = 3
  · subst k3
    go_wp2_with fail
    go_ret
    refine ⟨_, rfl, ?_, HB3.out.alloc HB3.out.size _⟩
    rw [form3]
    refine Sl.at_block (P := fun _ => True) ?_ HB3.out.size
    exact Sl.newl _ (pdc_len _ _ _) rfl rfl (by decide) rfl
  have e3 : (k == 3) = false := beq_eq_false_iff_ne.2 k3
  by_cases k4 : k = 4
  · subst k4
    go_upto_region 11 with fail
    clear n0 n1 n2 n3
    have hSw : w3.heap[w.heap.size]? = some (.cells #[.string ⟨#[]⟩, .pointer (some ⟨bu, 1, none⟩), .pointer none, .int .i64 0] 68 (0, 0)) := hn3
    refine wp_region_goon (fun wy : World => wy.heap[w.heap.size]? = some (.cells #[.string ⟨#[]⟩, .pointer (some ⟨bu, 1, none⟩), .pointer none, .int .i64 0] 68 (0, 0))) [2, 10, 11, 12] [] [1] [0, 3, 4, 5, 6, 7, 8, 9, 13] (by kernel_rfl) ?_
    refine goon_walk [0, 1, 3, 4, 5, 6, 7, 8, 9] 5 rfl (by kernel_rfl) (by kernel_rfl) (fun _ _ h => h) ?_
    repeat (first | (refine wpKind_free (v := ?_) (by rfl) rfl (by rfl) ?_ ?_; rotate_left 1; (focus (intro wy; go_simp; try with_reducible rfl; done)); try simp only [Act.put, List.setIfInBounds_toArray, List.set_cons_zero, List.set_cons_succ]) | (refine wpKind_held (v := ?_) (by rfl) rfl (by rfl) hSw ?_ ?_; rotate_left 1; (focus (intro wy hSy; have s0 : wy.cell? ⟨w.heap.size, 0, none⟩ = some (.string ⟨#[]⟩) := Lib.cell_of_heap hSy 0; have s1 : wy.cell? ⟨w.heap.size, 1, none⟩ = some (.pointer (some ⟨bu, 1, none⟩)) := Lib.cell_of_heap hSy 1; have s2 : wy.cell? ⟨w.heap.size, 2, none⟩ = some (.pointer none) := Lib.cell_of_heap hSy 2; have s3 : wy.cell? ⟨w.heap.size, 3, none⟩ = some (.int .i64 0) := Lib.cell_of_heap hSy 3; go_simp; try with_reducible rfl; done)); try simp only [Act.put, List.setIfInBounds_toArray, List.set_cons_zero, List.set_cons_succ]))
    refine wpKind_fin ?_
    have l13 : w1.heap.size < w3.heap.size := (HO3.out.lt rfl).2
    have L13 := Lib.hid l13
    have LWw3 := Lib.hid (Nat.le_refl w3.heap.size)
    have HTw3 := HO3
    have HNw3 := HN3
    have HBw3 := HB3
    clear l13
    refine goon_two 2 10 (by kernel_rfl) ?_ ?_
    · skip
      refine hOp_keeps (by rfl) rfl (fun c1 => ?_)
      go_wp2_with fail
      obtain ⟨w3_2, hw3_2⟩ : ∃ W, (w3.drewN c1).alloc (.cells #[.string ⟨#[100, 111, 111, 114]⟩, .pointer none, .pointer none, .int .i64 0, .string ⟨#[]⟩, .pointer (some ⟨bu, 1, none⟩), .pointer none, .int .i64 0] 68) = W := ⟨_, rfl⟩
      have HNw3_2 := Lib.hid (show w3_2.heap[w.heap.size]? = some (.cells #[.string ⟨#[]⟩, .pointer (some ⟨bu, 1, none⟩), .pointer none, .int .i64 0] 68 (0, 0)) by rw [← hw3_2]; exact kept_allocP HNw3.out c1)
      have HBw3_2 := Lib.hid (show Below w.heap.size w w3_2 by rw [← hw3_2]; exact (below_drewN HBw3.out c1).alloc (by exact HBw3.out.size) _)
      have LWw3_2 := Lib.hid (show w3.heap.size ≤ w3_2.heap.size by rw [← hw3_2]; exact Nat.le_trans LWw3.out (Nat.le_trans (Nat.le_of_eq rfl) (growP _ _ _)))
      have HTw3_2 := Lib.hid (show Ow (pdc bu bn bp) 4 w3_2 (w.heap.size + 1) 68 (.slice (some ⟨w1.heap.size, 0, none⟩) 4 4) timesF by rw [← hw3_2]; exact (HTw3.out.drewN c1).alloc _)
      have HHw3_2 := Lib.hid (show Ow (pdc bu bn bp) 4 w3_2 (w.heap.size + 1) 68 (.slice (some ⟨w3.heap.size, 0, none⟩) 2 2) ([Fld.word kDoor, Fld.name] : List Fld) by rw [← hw3_2]; exact Ow.newlP _ (pdc_len _ _ _) rfl rfl (by decide) rfl (by show w.heap.size + 1 ≤ w3.heap.size; have := L13.out; have := LWw3.out; have := Y1.out; omega))
      rw [hw3_2]
      clear hw3_2
      show _ ∧ _
      refine ⟨HNw3_2.out, ?_⟩
      refine goon_any [10] (by decide) (by kernel_rfl) ?_
      intro ii hii
      obtain rfl := List.mem_singleton.1 hii
      clear hii
      refine hOp_keeps (by rfl) rfl (fun c2 => ?_)
      go_wp2_with fail
      obtain ⟨w3_2_10, hw3_2_10⟩ : ∃ W, (w3_2.drewN c2).alloc (.cells #[.string ⟨#[111, 112, 101, 110]⟩, .pointer none, .pointer none, .int .i64 0, .string ⟨#[]⟩, .pointer none, .pointer (some ⟨bu, 7, none⟩), .int .i64 0] 68) = W := ⟨_, rfl⟩
      have HNw3_2_10 := Lib.hid (show w3_2_10.heap[w.heap.size]? = some (.cells #[.string ⟨#[]⟩, .pointer (some ⟨bu, 1, none⟩), .pointer none, .int .i64 0] 68 (0, 0)) by rw [← hw3_2_10]; exact kept_allocP HNw3_2.out c2)
      have HBw3_2_10 := Lib.hid (show Below w.heap.size w w3_2_10 by rw [← hw3_2_10]; exact (below_drewN HBw3_2.out c2).alloc (by exact HBw3_2.out.size) _)
      have LWw3_2_10 := Lib.hid (show w3.heap.size ≤ w3_2_10.heap.size by rw [← hw3_2_10]; exact Nat.le_trans LWw3_2.out (Nat.le_trans (Nat.le_of_eq rfl) (growP _ _ _)))
      have HTw3_2_10 := Lib.hid (show Ow (pdc bu bn bp) 4 w3_2_10 (w.heap.size + 1) 68 (.slice (some ⟨w1.heap.size, 0, none⟩) 4 4) timesF by rw [← hw3_2_10]; exact (HTw3_2.out.drewN c2).alloc _)
      have HHw3_2_10 := Lib.hid (show Ow (pdc bu bn bp) 4 w3_2_10 (w.heap.size + 1) 68 (.slice (some ⟨w3.heap.size, 0, none⟩) 2 2) ([Fld.word kDoor, Fld.name] : List Fld) by rw [← hw3_2_10]; exact (HHw3_2.out.drewN c2).alloc _)
      have HEw3_2_10 := Lib.hid (show Sl (pdc bu bn bp) 4 w3_2_10 (.slice (some ⟨w3_2.heap.size, 0, none⟩) 2 2) ([Fld.word kOpen, Fld.num 7 0] : List Fld) (fun _ => True) by rw [← hw3_2_10]; exact Sl.newl _ (pdc_len _ _ _) rfl rfl (by decide) rfl)
      rw [hw3_2_10]
      clear hw3_2_10
      show _ ∧ _
      refine ⟨HNw3_2_10.out, ?_⟩
      refine goon_any [11] (by decide) (by kernel_rfl) ?_
      intro ii hii
      obtain rfl := List.mem_singleton.1 hii
      clear hii
      refine hOp_keeps (by rfl) rfl (fun c3 => ?_)
      go_wp2_with (at_builtin; refine wpList_append_sl _ rfl _ _ _ rfl (w.heap.size + 1) 68 i0 _ 40 Tryz.underlying64 hi0 hz0 hz1 hz2 (by rfl) (by omega) (pdc_len _ _ _) (pdc_one _ _ _) _ _ timesF ([Fld.word kOpen, Fld.num 7 0] : List Fld) rfl rfl (HTw3_2_10.out.drewN c3) (HEw3_2_10.out.drewN c3) (by decide) (by decide) (by show w.heap.size + 1 ≤ w3_2_10.heap.size; have := L13.out; have := LWw3_2_10.out; have := Y1.out; omega) ?_; intro vr w3_2_10_11 hown hg hmv; obtain ⟨Ar, nr, cr, er⟩ := ow_form hown; subst er)
      have HNw3_2_10_11 := Lib.hid (show w3_2_10_11.heap[w.heap.size]? = some (.cells #[.string ⟨#[]⟩, .pointer (some ⟨bu, 1, none⟩), .pointer none, .int .i64 0] 68 (0, 0)) from (hg.block w.heap.size (by show w.heap.size < w3_2_10.heap.size; have := L13.out; have := LWw3_2_10.out; have := Y1.out; omega) (fun e => by have e : w1.heap.size = w.heap.size := Option.some.inj e.symm; have := Y1.out; omega)).trans HNw3_2_10.out)
      have HBw3_2_10_11 := Lib.hid (show Below w.heap.size w w3_2_10_11 from (below_drewN HBw3_2_10.out c3).grown hg (by exact HBw3_2_10.out.size) fun q hq => Nat.le_of_succ_le (HTw3_2_10.out.lt hq).1)
      have LWw3_2_10_11 := Lib.hid (show w3.heap.size ≤ w3_2_10_11.heap.size from Nat.le_trans LWw3_2_10.out hg.size)
      have HHw3_2_10_11 := Lib.hid (show Ow (pdc bu bn bp) 4 w3_2_10_11 (w.heap.size + 1) 68 (.slice (some ⟨w3.heap.size, 0, none⟩) 2 2) ([Fld.word kDoor, Fld.name] : List Fld) from (HHw3_2_10.out.drewN c3).kept hg (.inr (fun e => by have e : w3.heap.size = w1.heap.size := Option.some.inj e; have := L13.out; have := LWw3.out; omega)))
      have HRw3_2_10_11 := Lib.hid (show Sl (pdc bu bn bp) 4 w3_2_10_11 (.slice Ar nr cr) (timesF ++ ([Fld.word kOpen, Fld.num 7 0] : List Fld)) (fun _ => True) from (hown.sl (pdc_len _ _ _)).mono fun _ _ => trivial)
      clear hown hg hmv
      show _ ∧ _
      refine ⟨HNw3_2_10_11.out, ?_⟩
      refine goon_any [12] (by decide) (by kernel_rfl) ?_
      intro ii hii
      obtain rfl := List.mem_singleton.1 hii
      clear hii
      refine hOp_keeps (by rfl) rfl (fun c4 => ?_)
      go_wp2_with (at_builtin; go_loud (refine wpList_append_sl _ rfl _ _ _ rfl (w.heap.size + 1) 68 i0 _ 40 Tryz.underlying64 hi0 hz0 hz1 hz2 (by rfl) (by omega) (pdc_len _ _ _) (pdc_one _ _ _) _ _ ([Fld.word kDoor, Fld.name] : List Fld) (timesF ++ ([Fld.word kOpen, Fld.num 7 0] : List Fld)) rfl rfl (HHw3_2_10_11.out.drewN c4) (HRw3_2_10_11.out.drewN c4) (by decide) (by decide) (by show w.heap.size + 1 ≤ w3_2_10_11.heap.size; have := L13.out; have := LWw3_2_10_11.out; have := Y1.out; omega) ?_; intro vq w3_2_10_11_12 hown hg hmv; obtain ⟨Aq, nq, cq, eq⟩ := ow_form hown; subst eq))
      have HNw3_2_10_11_12 := Lib.hid (show w3_2_10_11_12.heap[w.heap.size]? = some (.cells #[.string ⟨#[]⟩, .pointer (some ⟨bu, 1, none⟩), .pointer none, .int .i64 0] 68 (0, 0)) from (hg.block w.heap.size (by show w.heap.size < w3_2_10_11.heap.size; have := L13.out; have := LWw3_2_10_11.out; have := Y1.out; omega) (fun e => by have e : w3.heap.size = w.heap.size := Option.some.inj e.symm; have := L13.out; have := LWw3.out; have := Y1.out; omega)).trans HNw3_2_10_11.out)
      have HBw3_2_10_11_12 := Lib.hid (show Below w.heap.size w w3_2_10_11_12 from (below_drewN HBw3_2_10_11.out c4).grown hg (by exact HBw3_2_10_11.out.size) fun q hq => Nat.le_of_succ_le (HHw3_2_10_11.out.lt hq).1)
      have HR12 := Lib.hid hown
      clear hown hg hmv
      show _ ∧ _
      refine ⟨HNw3_2_10_11_12.out, ?_⟩
      refine goon_walk [13] 0 rfl (by kernel_rfl) (by kernel_rfl) (fun _ _ h => h) ?_
      repeat (first | (refine wpKind_free (v := ?_) (by rfl) rfl (by rfl) ?_ ?_; rotate_left 1; (focus (intro wy; go_simp; try with_reducible rfl; done)); try simp only [Act.put, List.setIfInBounds_toArray, List.set_cons_zero, List.set_cons_succ]))
      refine wpKind_fin ?_
      refine goon_end (by kernel_rfl) (fun m9 => ?_)
      go_wp2_with fail
      go_ret
      have hfin := (HR12.out.drewN m9).sl (pdc_len _ _ _)
      have hfd : formD 4 = ([Fld.word kDoor, Fld.name] : List Fld) ++ (timesF ++ ([Fld.word kOpen, Fld.num 7 0] : List Fld)) := form4
      refine ⟨_, rfl, ?_, below_drewN HBw3_2_10_11_12.out m9⟩
      rw [hfd]
      exact hfin.mono fun _ h => Nat.le_of_succ_le h.2
    · skip
      refine hOp_keeps (by rfl) rfl (fun c1 => ?_)
      go_wp2_with fail
      obtain ⟨w3_10, hw3_10⟩ : ∃ W, (w3.drewN c1).alloc (.cells #[.string ⟨#[111, 112, 101, 110]⟩, .pointer none, .pointer none, .int .i64 0, .string ⟨#[]⟩, .pointer none, .pointer (some ⟨bu, 7, none⟩), .int .i64 0] 68) = W := ⟨_, rfl⟩
      have HNw3_10 := Lib.hid (show w3_10.heap[w.heap.size]? = some (.cells #[.string ⟨#[]⟩, .pointer (some ⟨bu, 1, none⟩), .pointer none, .int .i64 0] 68 (0, 0)) by rw [← hw3_10]; exact kept_allocP HNw3.out c1)
      have HBw3_10 := Lib.hid (show Below w.heap.size w w3_10 by rw [← hw3_10]; exact (below_drewN HBw3.out c1).alloc (by exact HBw3.out.size) _)
      have LWw3_10 := Lib.hid (show w3.heap.size ≤ w3_10.heap.size by rw [← hw3_10]; exact Nat.le_trans LWw3.out (Nat.le_trans (Nat.le_of_eq rfl) (growP _ _ _)))
      have HTw3_10 := Lib.hid (show Ow (pdc bu bn bp) 4 w3_10 (w.heap.size + 1) 68 (.slice (some ⟨w1.heap.size, 0, none⟩) 4 4) timesF by rw [← hw3_10]; exact (HTw3.out.drewN c1).alloc _)
      have HEw3_10 := Lib.hid (show Sl (pdc bu bn bp) 4 w3_10 (.slice (some ⟨w3.heap.size, 0, none⟩) 2 2) ([Fld.word kOpen, Fld.num 7 0] : List Fld) (fun _ => True) by rw [← hw3_10]; exact Sl.newl _ (pdc_len _ _ _) rfl rfl (by decide) rfl)
      rw [hw3_10]
      clear hw3_10
      show _ ∧ _
      refine ⟨HNw3_10.out, ?_⟩
      refine goon_two 2 11 (by kernel_rfl) ?_ ?_
      · skip
        refine hOp_keeps (by rfl) rfl (fun c2 => ?_)
        go_wp2_with fail
        obtain ⟨w3_10_2, hw3_10_2⟩ : ∃ W, (w3_10.drewN c2).alloc (.cells #[.string ⟨#[100, 111, 111, 114]⟩, .pointer none, .pointer none, .int .i64 0, .string ⟨#[]⟩, .pointer (some ⟨bu, 1, none⟩), .pointer none, .int .i64 0] 68) = W := ⟨_, rfl⟩
        have HNw3_10_2 := Lib.hid (show w3_10_2.heap[w.heap.size]? = some (.cells #[.string ⟨#[]⟩, .pointer (some ⟨bu, 1, none⟩), .pointer none, .int .i64 0] 68 (0, 0)) by rw [← hw3_10_2]; exact kept_allocP HNw3_10.out c2)
        have HBw3_10_2 := Lib.hid (show Below w.heap.size w w3_10_2 by rw [← hw3_10_2]; exact (below_drewN HBw3_10.out c2).alloc (by exact HBw3_10.out.size) _)
        have LWw3_10_2 := Lib.hid (show w3.heap.size ≤ w3_10_2.heap.size by rw [← hw3_10_2]; exact Nat.le_trans LWw3_10.out (Nat.le_trans (Nat.le_of_eq rfl) (growP _ _ _)))
        have HTw3_10_2 := Lib.hid (show Ow (pdc bu bn bp) 4 w3_10_2 (w.heap.size + 1) 68 (.slice (some ⟨w1.heap.size, 0, none⟩) 4 4) timesF by rw [← hw3_10_2]; exact (HTw3_10.out.drewN c2).alloc _)
        have HEw3_10_2 := Lib.hid (show Sl (pdc bu bn bp) 4 w3_10_2 (.slice (some ⟨w3.heap.size, 0, none⟩) 2 2) ([Fld.word kOpen, Fld.num 7 0] : List Fld) (fun _ => True) by rw [← hw3_10_2]; exact (HEw3_10.out.drewN c2).alloc _)
        have HHw3_10_2 := Lib.hid (show Ow (pdc bu bn bp) 4 w3_10_2 (w.heap.size + 1) 68 (.slice (some ⟨w3_10.heap.size, 0, none⟩) 2 2) ([Fld.word kDoor, Fld.name] : List Fld) by rw [← hw3_10_2]; exact Ow.newlP _ (pdc_len _ _ _) rfl rfl (by decide) rfl (by show w.heap.size + 1 ≤ w3_10.heap.size; have := L13.out; have := LWw3_10.out; have := Y1.out; omega))
        rw [hw3_10_2]
        clear hw3_10_2
        show _ ∧ _
        refine ⟨HNw3_10_2.out, ?_⟩
        refine goon_any [11] (by decide) (by kernel_rfl) ?_
        intro ii hii
        obtain rfl := List.mem_singleton.1 hii
        clear hii
        refine hOp_keeps (by rfl) rfl (fun c3 => ?_)
        go_wp2_with (at_builtin; refine wpList_append_sl _ rfl _ _ _ rfl (w.heap.size + 1) 68 i0 _ 40 Tryz.underlying64 hi0 hz0 hz1 hz2 (by rfl) (by omega) (pdc_len _ _ _) (pdc_one _ _ _) _ _ timesF ([Fld.word kOpen, Fld.num 7 0] : List Fld) rfl rfl (HTw3_10_2.out.drewN c3) (HEw3_10_2.out.drewN c3) (by decide) (by decide) (by show w.heap.size + 1 ≤ w3_10_2.heap.size; have := L13.out; have := LWw3_10_2.out; have := Y1.out; omega) ?_; intro vr w3_10_2_11 hown hg hmv; obtain ⟨Ar, nr, cr, er⟩ := ow_form hown; subst er)
        have HNw3_10_2_11 := Lib.hid (show w3_10_2_11.heap[w.heap.size]? = some (.cells #[.string ⟨#[]⟩, .pointer (some ⟨bu, 1, none⟩), .pointer none, .int .i64 0] 68 (0, 0)) from (hg.block w.heap.size (by show w.heap.size < w3_10_2.heap.size; have := L13.out; have := LWw3_10_2.out; have := Y1.out; omega) (fun e => by have e : w1.heap.size = w.heap.size := Option.some.inj e.symm; have := Y1.out; omega)).trans HNw3_10_2.out)
        have HBw3_10_2_11 := Lib.hid (show Below w.heap.size w w3_10_2_11 from (below_drewN HBw3_10_2.out c3).grown hg (by exact HBw3_10_2.out.size) fun q hq => Nat.le_of_succ_le (HTw3_10_2.out.lt hq).1)
        have LWw3_10_2_11 := Lib.hid (show w3.heap.size ≤ w3_10_2_11.heap.size from Nat.le_trans LWw3_10_2.out hg.size)
        have HHw3_10_2_11 := Lib.hid (show Ow (pdc bu bn bp) 4 w3_10_2_11 (w.heap.size + 1) 68 (.slice (some ⟨w3_10.heap.size, 0, none⟩) 2 2) ([Fld.word kDoor, Fld.name] : List Fld) from (HHw3_10_2.out.drewN c3).kept hg (.inr (fun e => by have e : w3_10.heap.size = w1.heap.size := Option.some.inj e; have := L13.out; have := LWw3_10.out; omega)))
        have HRw3_10_2_11 := Lib.hid (show Sl (pdc bu bn bp) 4 w3_10_2_11 (.slice Ar nr cr) (timesF ++ ([Fld.word kOpen, Fld.num 7 0] : List Fld)) (fun _ => True) from (hown.sl (pdc_len _ _ _)).mono fun _ _ => trivial)
        clear hown hg hmv
        show _ ∧ _
        refine ⟨HNw3_10_2_11.out, ?_⟩
        refine goon_any [12] (by decide) (by kernel_rfl) ?_
        intro ii hii
        obtain rfl := List.mem_singleton.1 hii
        clear hii
        refine hOp_keeps (by rfl) rfl (fun c4 => ?_)
        go_wp2_with (at_builtin; go_loud (refine wpList_append_sl _ rfl _ _ _ rfl (w.heap.size + 1) 68 i0 _ 40 Tryz.underlying64 hi0 hz0 hz1 hz2 (by rfl) (by omega) (pdc_len _ _ _) (pdc_one _ _ _) _ _ ([Fld.word kDoor, Fld.name] : List Fld) (timesF ++ ([Fld.word kOpen, Fld.num 7 0] : List Fld)) rfl rfl (HHw3_10_2_11.out.drewN c4) (HRw3_10_2_11.out.drewN c4) (by decide) (by decide) (by show w.heap.size + 1 ≤ w3_10_2_11.heap.size; have := L13.out; have := LWw3_10_2_11.out; have := Y1.out; omega) ?_; intro vq w3_10_2_11_12 hown hg hmv; obtain ⟨Aq, nq, cq, eq⟩ := ow_form hown; subst eq))
        have HNw3_10_2_11_12 := Lib.hid (show w3_10_2_11_12.heap[w.heap.size]? = some (.cells #[.string ⟨#[]⟩, .pointer (some ⟨bu, 1, none⟩), .pointer none, .int .i64 0] 68 (0, 0)) from (hg.block w.heap.size (by show w.heap.size < w3_10_2_11.heap.size; have := L13.out; have := LWw3_10_2_11.out; have := Y1.out; omega) (fun e => by have e : w3_10.heap.size = w.heap.size := Option.some.inj e.symm; have := L13.out; have := LWw3_10.out; have := Y1.out; omega)).trans HNw3_10_2_11.out)
        have HBw3_10_2_11_12 := Lib.hid (show Below w.heap.size w w3_10_2_11_12 from (below_drewN HBw3_10_2_11.out c4).grown hg (by exact HBw3_10_2_11.out.size) fun q hq => Nat.le_of_succ_le (HHw3_10_2_11.out.lt hq).1)
        have HR12 := Lib.hid hown
        clear hown hg hmv
        show _ ∧ _
        refine ⟨HNw3_10_2_11_12.out, ?_⟩
        refine goon_walk [13] 0 rfl (by kernel_rfl) (by kernel_rfl) (fun _ _ h => h) ?_
        repeat (first | (refine wpKind_free (v := ?_) (by rfl) rfl (by rfl) ?_ ?_; rotate_left 1; (focus (intro wy; go_simp; try with_reducible rfl; done)); try simp only [Act.put, List.setIfInBounds_toArray, List.set_cons_zero, List.set_cons_succ]))
        refine wpKind_fin ?_
        refine goon_end (by kernel_rfl) (fun m9 => ?_)
        go_wp2_with fail
        go_ret
        have hfin := (HR12.out.drewN m9).sl (pdc_len _ _ _)
        have hfd : formD 4 = ([Fld.word kDoor, Fld.name] : List Fld) ++ (timesF ++ ([Fld.word kOpen, Fld.num 7 0] : List Fld)) := form4
        refine ⟨_, rfl, ?_, below_drewN HBw3_10_2_11_12.out m9⟩
        rw [hfd]
        exact hfin.mono fun _ h => Nat.le_of_succ_le h.2
      · skip
        refine hOp_keeps (by rfl) rfl (fun c2 => ?_)
        go_wp2_with (at_builtin; refine wpList_append_sl _ rfl _ _ _ rfl (w.heap.size + 1) 68 i0 _ 40 Tryz.underlying64 hi0 hz0 hz1 hz2 (by rfl) (by omega) (pdc_len _ _ _) (pdc_one _ _ _) _ _ timesF ([Fld.word kOpen, Fld.num 7 0] : List Fld) rfl rfl (HTw3_10.out.drewN c2) (HEw3_10.out.drewN c2) (by decide) (by decide) (by show w.heap.size + 1 ≤ w3_10.heap.size; have := L13.out; have := LWw3_10.out; have := Y1.out; omega) ?_; intro vr w3_10_11 hown hg hmv; obtain ⟨Ar, nr, cr, er⟩ := ow_form hown; subst er)
        have HNw3_10_11 := Lib.hid (show w3_10_11.heap[w.heap.size]? = some (.cells #[.string ⟨#[]⟩, .pointer (some ⟨bu, 1, none⟩), .pointer none, .int .i64 0] 68 (0, 0)) from (hg.block w.heap.size (by show w.heap.size < w3_10.heap.size; have := L13.out; have := LWw3_10.out; have := Y1.out; omega) (fun e => by have e : w1.heap.size = w.heap.size := Option.some.inj e.symm; have := Y1.out; omega)).trans HNw3_10.out)
        have HBw3_10_11 := Lib.hid (show Below w.heap.size w w3_10_11 from (below_drewN HBw3_10.out c2).grown hg (by exact HBw3_10.out.size) fun q hq => Nat.le_of_succ_le (HTw3_10.out.lt hq).1)
        have LWw3_10_11 := Lib.hid (show w3.heap.size ≤ w3_10_11.heap.size from Nat.le_trans LWw3_10.out hg.size)
        have HRw3_10_11 := Lib.hid (show Sl (pdc bu bn bp) 4 w3_10_11 (.slice Ar nr cr) (timesF ++ ([Fld.word kOpen, Fld.num 7 0] : List Fld)) (fun _ => True) from (hown.sl (pdc_len _ _ _)).mono fun _ _ => trivial)
        clear hown hg hmv
        show _ ∧ _
        refine ⟨HNw3_10_11.out, ?_⟩
        refine goon_any [2] (by decide) (by kernel_rfl) ?_
        intro ii hii
        obtain rfl := List.mem_singleton.1 hii
        clear hii
        refine hOp_keeps (by rfl) rfl (fun c3 => ?_)
        go_wp2_with fail
        obtain ⟨w3_10_11_2, hw3_10_11_2⟩ : ∃ W, (w3_10_11.drewN c3).alloc (.cells #[.string ⟨#[100, 111, 111, 114]⟩, .pointer none, .pointer none, .int .i64 0, .string ⟨#[]⟩, .pointer (some ⟨bu, 1, none⟩), .pointer none, .int .i64 0] 68) = W := ⟨_, rfl⟩
        have HNw3_10_11_2 := Lib.hid (show w3_10_11_2.heap[w.heap.size]? = some (.cells #[.string ⟨#[]⟩, .pointer (some ⟨bu, 1, none⟩), .pointer none, .int .i64 0] 68 (0, 0)) by rw [← hw3_10_11_2]; exact kept_allocP HNw3_10_11.out c3)
        have HBw3_10_11_2 := Lib.hid (show Below w.heap.size w w3_10_11_2 by rw [← hw3_10_11_2]; exact (below_drewN HBw3_10_11.out c3).alloc (by exact HBw3_10_11.out.size) _)
        have LWw3_10_11_2 := Lib.hid (show w3.heap.size ≤ w3_10_11_2.heap.size by rw [← hw3_10_11_2]; exact Nat.le_trans LWw3_10_11.out (Nat.le_trans (Nat.le_of_eq rfl) (growP _ _ _)))
        have HRw3_10_11_2 := Lib.hid (show Sl (pdc bu bn bp) 4 w3_10_11_2 (.slice Ar nr cr) (timesF ++ ([Fld.word kOpen, Fld.num 7 0] : List Fld)) (fun _ => True) by rw [← hw3_10_11_2]; exact (HRw3_10_11.out.drewN c3).alloc _)
        have HHw3_10_11_2 := Lib.hid (show Ow (pdc bu bn bp) 4 w3_10_11_2 (w.heap.size + 1) 68 (.slice (some ⟨w3_10_11.heap.size, 0, none⟩) 2 2) ([Fld.word kDoor, Fld.name] : List Fld) by rw [← hw3_10_11_2]; exact Ow.newlP _ (pdc_len _ _ _) rfl rfl (by decide) rfl (by show w.heap.size + 1 ≤ w3_10_11.heap.size; have := L13.out; have := LWw3_10_11.out; have := Y1.out; omega))
        rw [hw3_10_11_2]
        clear hw3_10_11_2
        show _ ∧ _
        refine ⟨HNw3_10_11_2.out, ?_⟩
        refine goon_any [12] (by decide) (by kernel_rfl) ?_
        intro ii hii
        obtain rfl := List.mem_singleton.1 hii
        clear hii
        refine hOp_keeps (by rfl) rfl (fun c4 => ?_)
        go_wp2_with (at_builtin; go_loud (refine wpList_append_sl _ rfl _ _ _ rfl (w.heap.size + 1) 68 i0 _ 40 Tryz.underlying64 hi0 hz0 hz1 hz2 (by rfl) (by omega) (pdc_len _ _ _) (pdc_one _ _ _) _ _ ([Fld.word kDoor, Fld.name] : List Fld) (timesF ++ ([Fld.word kOpen, Fld.num 7 0] : List Fld)) rfl rfl (HHw3_10_11_2.out.drewN c4) (HRw3_10_11_2.out.drewN c4) (by decide) (by decide) (by show w.heap.size + 1 ≤ w3_10_11_2.heap.size; have := L13.out; have := LWw3_10_11_2.out; have := Y1.out; omega) ?_; intro vq w3_10_11_2_12 hown hg hmv; obtain ⟨Aq, nq, cq, eq⟩ := ow_form hown; subst eq))
        have HNw3_10_11_2_12 := Lib.hid (show w3_10_11_2_12.heap[w.heap.size]? = some (.cells #[.string ⟨#[]⟩, .pointer (some ⟨bu, 1, none⟩), .pointer none, .int .i64 0] 68 (0, 0)) from (hg.block w.heap.size (by show w.heap.size < w3_10_11_2.heap.size; have := L13.out; have := LWw3_10_11_2.out; have := Y1.out; omega) (fun e => by have e : w3_10_11.heap.size = w.heap.size := Option.some.inj e.symm; have := L13.out; have := LWw3_10_11.out; have := Y1.out; omega)).trans HNw3_10_11_2.out)
        have HBw3_10_11_2_12 := Lib.hid (show Below w.heap.size w w3_10_11_2_12 from (below_drewN HBw3_10_11_2.out c4).grown hg (by exact HBw3_10_11_2.out.size) fun q hq => Nat.le_of_succ_le (HHw3_10_11_2.out.lt hq).1)
        have HR12 := Lib.hid hown
        clear hown hg hmv
        show _ ∧ _
        refine ⟨HNw3_10_11_2_12.out, ?_⟩
        refine goon_walk [13] 0 rfl (by kernel_rfl) (by kernel_rfl) (fun _ _ h => h) ?_
        repeat (first | (refine wpKind_free (v := ?_) (by rfl) rfl (by rfl) ?_ ?_; rotate_left 1; (focus (intro wy; go_simp; try with_reducible rfl; done)); try simp only [Act.put, List.setIfInBounds_toArray, List.set_cons_zero, List.set_cons_succ]))
        refine wpKind_fin ?_
        refine goon_end (by kernel_rfl) (fun m9 => ?_)
        go_wp2_with fail
        go_ret
        have hfin := (HR12.out.drewN m9).sl (pdc_len _ _ _)
        have hfd : formD 4 = ([Fld.word kDoor, Fld.name] : List Fld) ++ (timesF ++ ([Fld.word kOpen, Fld.num 7 0] : List Fld)) := form4
        refine ⟨_, rfl, ?_, below_drewN HBw3_10_11_2_12.out m9⟩
        rw [hfd]
        exact hfin.mono fun _ h => Nat.le_of_succ_le h.2
  have e4 : (k == 4) = false := beq_eq_false_iff_ne.2 k4
  have hf5 : formD k = formD 5 := by unfold formD wordsD; rw [if_neg k1, if_neg k2, if_neg k3, if_neg k4]; rfl
  have HF5 := Lib.hid (hf5.trans form5)
  clear k1 k2 k3 k4 hf5
  go_upto_region 12 with fail
  clear n0 n1 n2 n3
  have hSw : w3.heap[w.heap.size]? = some (.cells #[.string ⟨#[]⟩, .pointer (some ⟨bu, 1, none⟩), .pointer none, .int .i64 0] 68 (0, 0)) := hn3
  refine wp_region_goon (fun wy : World => wy.heap[w.heap.size]? = some (.cells #[.string ⟨#[]⟩, .pointer (some ⟨bu, 1, none⟩), .pointer none, .int .i64 0] 68 (0, 0))) [2, 10, 11, 12] [] [1] [0, 3, 4, 5, 6, 7, 8, 9, 13] (by kernel_rfl) ?_
  refine goon_walk [0, 1, 3, 4, 5, 6, 7, 8, 9] 5 rfl (by kernel_rfl) (by kernel_rfl) (fun _ _ h => h) ?_
  repeat (first | (refine wpKind_free (v := ?_) (by rfl) rfl (by rfl) ?_ ?_; rotate_left 1; (focus (intro wy; go_simp; try with_reducible rfl; done)); try simp only [Act.put, List.setIfInBounds_toArray, List.set_cons_zero, List.set_cons_succ]) | (refine wpKind_held (v := ?_) (by rfl) rfl (by rfl) hSw ?_ ?_; rotate_left 1; (focus (intro wy hSy; have s0 : wy.cell? ⟨w.heap.size, 0, none⟩ = some (.string ⟨#[]⟩) := Lib.cell_of_heap hSy 0; have s1 : wy.cell? ⟨w.heap.size, 1, none⟩ = some (.pointer (some ⟨bu, 1, none⟩)) := Lib.cell_of_heap hSy 1; have s2 : wy.cell? ⟨w.heap.size, 2, none⟩ = some (.pointer none) := Lib.cell_of_heap hSy 2; have s3 : wy.cell? ⟨w.heap.size, 3, none⟩ = some (.int .i64 0) := Lib.cell_of_heap hSy 3; go_simp; try with_reducible rfl; done)); try simp only [Act.put, List.setIfInBounds_toArray, List.set_cons_zero, List.set_cons_succ]))
  refine wpKind_fin ?_
  have l13 : w1.heap.size < w3.heap.size := (HO3.out.lt rfl).2
  have L13 := Lib.hid l13
  have LWw3 := Lib.hid (Nat.le_refl w3.heap.size)
  have HTw3 := HO3
  have HNw3 := HN3
  have HBw3 := HB3
  clear l13
  refine goon_two 2 10 (by kernel_rfl) ?_ ?_
  · skip
    refine hOp_keeps (by rfl) rfl (fun c1 => ?_)
    go_wp2_with fail
    obtain ⟨w3_2, hw3_2⟩ : ∃ W, (w3.drewN c1).alloc (.cells #[.string ⟨#[104, 97, 122, 97, 114, 100]⟩, .pointer none, .pointer none, .int .i64 0, .string ⟨#[]⟩, .pointer (some ⟨bu, 1, none⟩), .pointer none, .int .i64 0] 68) = W := ⟨_, rfl⟩
    have HNw3_2 := Lib.hid (show w3_2.heap[w.heap.size]? = some (.cells #[.string ⟨#[]⟩, .pointer (some ⟨bu, 1, none⟩), .pointer none, .int .i64 0] 68 (0, 0)) by rw [← hw3_2]; exact kept_allocP HNw3.out c1)
    have HBw3_2 := Lib.hid (show Below w.heap.size w w3_2 by rw [← hw3_2]; exact (below_drewN HBw3.out c1).alloc (by exact HBw3.out.size) _)
    have LWw3_2 := Lib.hid (show w3.heap.size ≤ w3_2.heap.size by rw [← hw3_2]; exact Nat.le_trans LWw3.out (Nat.le_trans (Nat.le_of_eq rfl) (growP _ _ _)))
    have HTw3_2 := Lib.hid (show Ow (pdc bu bn bp) 4 w3_2 (w.heap.size + 1) 68 (.slice (some ⟨w1.heap.size, 0, none⟩) 4 4) timesF by rw [← hw3_2]; exact (HTw3.out.drewN c1).alloc _)
    have HHw3_2 := Lib.hid (show Ow (pdc bu bn bp) 4 w3_2 (w.heap.size + 1) 68 (.slice (some ⟨w3.heap.size, 0, none⟩) 2 2) ([Fld.word kHazard, Fld.name] : List Fld) by rw [← hw3_2]; exact Ow.newlP _ (pdc_len _ _ _) rfl rfl (by decide) rfl (by show w.heap.size + 1 ≤ w3.heap.size; have := L13.out; have := LWw3.out; have := Y1.out; omega))
    rw [hw3_2]
    clear hw3_2
    show _ ∧ _
    refine ⟨HNw3_2.out, ?_⟩
    refine goon_any [10] (by decide) (by kernel_rfl) ?_
    intro ii hii
    obtain rfl := List.mem_singleton.1 hii
    clear hii
    refine hOp_keeps (by rfl) rfl (fun c2 => ?_)
    go_wp2_with fail
    obtain ⟨w3_2_10, hw3_2_10⟩ : ∃ W, (w3_2.drewN c2).alloc (.cells #[.string ⟨#[99, 108, 111, 115, 101, 100]⟩, .pointer none, .pointer none, .int .i64 0, .string ⟨#[]⟩, .pointer none, .pointer (some ⟨bu, 7, none⟩), .int .i64 0] 68) = W := ⟨_, rfl⟩
    have HNw3_2_10 := Lib.hid (show w3_2_10.heap[w.heap.size]? = some (.cells #[.string ⟨#[]⟩, .pointer (some ⟨bu, 1, none⟩), .pointer none, .int .i64 0] 68 (0, 0)) by rw [← hw3_2_10]; exact kept_allocP HNw3_2.out c2)
    have HBw3_2_10 := Lib.hid (show Below w.heap.size w w3_2_10 by rw [← hw3_2_10]; exact (below_drewN HBw3_2.out c2).alloc (by exact HBw3_2.out.size) _)
    have LWw3_2_10 := Lib.hid (show w3.heap.size ≤ w3_2_10.heap.size by rw [← hw3_2_10]; exact Nat.le_trans LWw3_2.out (Nat.le_trans (Nat.le_of_eq rfl) (growP _ _ _)))
    have HTw3_2_10 := Lib.hid (show Ow (pdc bu bn bp) 4 w3_2_10 (w.heap.size + 1) 68 (.slice (some ⟨w1.heap.size, 0, none⟩) 4 4) timesF by rw [← hw3_2_10]; exact (HTw3_2.out.drewN c2).alloc _)
    have HHw3_2_10 := Lib.hid (show Ow (pdc bu bn bp) 4 w3_2_10 (w.heap.size + 1) 68 (.slice (some ⟨w3.heap.size, 0, none⟩) 2 2) ([Fld.word kHazard, Fld.name] : List Fld) by rw [← hw3_2_10]; exact (HHw3_2.out.drewN c2).alloc _)
    have HEw3_2_10 := Lib.hid (show Sl (pdc bu bn bp) 4 w3_2_10 (.slice (some ⟨w3_2.heap.size, 0, none⟩) 2 2) ([Fld.word kClosed, Fld.num 7 0] : List Fld) (fun _ => True) by rw [← hw3_2_10]; exact Sl.newl _ (pdc_len _ _ _) rfl rfl (by decide) rfl)
    rw [hw3_2_10]
    clear hw3_2_10
    show _ ∧ _
    refine ⟨HNw3_2_10.out, ?_⟩
    refine goon_any [11] (by decide) (by kernel_rfl) ?_
    intro ii hii
    obtain rfl := List.mem_singleton.1 hii
    clear hii
    refine hOp_keeps (by rfl) rfl (fun c3 => ?_)
    go_wp2_with (at_builtin; refine wpList_append_sl _ rfl _ _ _ rfl (w.heap.size + 1) 68 i0 _ 40 Tryz.underlying64 hi0 hz0 hz1 hz2 (by rfl) (by omega) (pdc_len _ _ _) (pdc_one _ _ _) _ _ timesF ([Fld.word kClosed, Fld.num 7 0] : List Fld) rfl rfl (HTw3_2_10.out.drewN c3) (HEw3_2_10.out.drewN c3) (by decide) (by decide) (by show w.heap.size + 1 ≤ w3_2_10.heap.size; have := L13.out; have := LWw3_2_10.out; have := Y1.out; omega) ?_; intro vr w3_2_10_11 hown hg hmv; obtain ⟨Ar, nr, cr, er⟩ := ow_form hown; subst er)
    have HNw3_2_10_11 := Lib.hid (show w3_2_10_11.heap[w.heap.size]? = some (.cells #[.string ⟨#[]⟩, .pointer (some ⟨bu, 1, none⟩), .pointer none, .int .i64 0] 68 (0, 0)) from (hg.block w.heap.size (by show w.heap.size < w3_2_10.heap.size; have := L13.out; have := LWw3_2_10.out; have := Y1.out; omega) (fun e => by have e : w1.heap.size = w.heap.size := Option.some.inj e.symm; have := Y1.out; omega)).trans HNw3_2_10.out)
    have HBw3_2_10_11 := Lib.hid (show Below w.heap.size w w3_2_10_11 from (below_drewN HBw3_2_10.out c3).grown hg (by exact HBw3_2_10.out.size) fun q hq => Nat.le_of_succ_le (HTw3_2_10.out.lt hq).1)
    have LWw3_2_10_11 := Lib.hid (show w3.heap.size ≤ w3_2_10_11.heap.size from Nat.le_trans LWw3_2_10.out hg.size)
    have HHw3_2_10_11 := Lib.hid (show Ow (pdc bu bn bp) 4 w3_2_10_11 (w.heap.size + 1) 68 (.slice (some ⟨w3.heap.size, 0, none⟩) 2 2) ([Fld.word kHazard, Fld.name] : List Fld) from (HHw3_2_10.out.drewN c3).kept hg (.inr (fun e => by have e : w3.heap.size = w1.heap.size := Option.some.inj e; have := L13.out; have := LWw3.out; omega)))
    have HRw3_2_10_11 := Lib.hid (show Sl (pdc bu bn bp) 4 w3_2_10_11 (.slice Ar nr cr) (timesF ++ ([Fld.word kClosed, Fld.num 7 0] : List Fld)) (fun _ => True) from (hown.sl (pdc_len _ _ _)).mono fun _ _ => trivial)
    clear hown hg hmv
    show _ ∧ _
    refine ⟨HNw3_2_10_11.out, ?_⟩
    refine goon_any [12] (by decide) (by kernel_rfl) ?_
    intro ii hii
    obtain rfl := List.mem_singleton.1 hii
    clear hii
    refine hOp_keeps (by rfl) rfl (fun c4 => ?_)
    go_wp2_with (at_builtin; go_loud (refine wpList_append_sl _ rfl _ _ _ rfl (w.heap.size + 1) 68 i0 _ 40 Tryz.underlying64 hi0 hz0 hz1 hz2 (by rfl) (by omega) (pdc_len _ _ _) (pdc_one _ _ _) _ _ ([Fld.word kHazard, Fld.name] : List Fld) (timesF ++ ([Fld.word kClosed, Fld.num 7 0] : List Fld)) rfl rfl (HHw3_2_10_11.out.drewN c4) (HRw3_2_10_11.out.drewN c4) (by decide) (by decide) (by show w.heap.size + 1 ≤ w3_2_10_11.heap.size; have := L13.out; have := LWw3_2_10_11.out; have := Y1.out; omega) ?_; intro vq w3_2_10_11_12 hown hg hmv; obtain ⟨Aq, nq, cq, eq⟩ := ow_form hown; subst eq))
    have HNw3_2_10_11_12 := Lib.hid (show w3_2_10_11_12.heap[w.heap.size]? = some (.cells #[.string ⟨#[]⟩, .pointer (some ⟨bu, 1, none⟩), .pointer none, .int .i64 0] 68 (0, 0)) from (hg.block w.heap.size (by show w.heap.size < w3_2_10_11.heap.size; have := L13.out; have := LWw3_2_10_11.out; have := Y1.out; omega) (fun e => by have e : w3.heap.size = w.heap.size := Option.some.inj e.symm; have := L13.out; have := LWw3.out; have := Y1.out; omega)).trans HNw3_2_10_11.out)
    have HBw3_2_10_11_12 := Lib.hid (show Below w.heap.size w w3_2_10_11_12 from (below_drewN HBw3_2_10_11.out c4).grown hg (by exact HBw3_2_10_11.out.size) fun q hq => Nat.le_of_succ_le (HHw3_2_10_11.out.lt hq).1)
    have HR12 := Lib.hid hown
    clear hown hg hmv
    show _ ∧ _
    refine ⟨HNw3_2_10_11_12.out, ?_⟩
    refine goon_walk [13] 0 rfl (by kernel_rfl) (by kernel_rfl) (fun _ _ h => h) ?_
    repeat (first | (refine wpKind_free (v := ?_) (by rfl) rfl (by rfl) ?_ ?_; rotate_left 1; (focus (intro wy; go_simp; try with_reducible rfl; done)); try simp only [Act.put, List.setIfInBounds_toArray, List.set_cons_zero, List.set_cons_succ]))
    refine wpKind_fin ?_
    refine goon_end (by kernel_rfl) (fun m9 => ?_)
    go_wp2_with fail
    go_ret
    have hfin := (HR12.out.drewN m9).sl (pdc_len _ _ _)
    have hfd : formD k = ([Fld.word kHazard, Fld.name] : List Fld) ++ (timesF ++ ([Fld.word kClosed, Fld.num 7 0] : List Fld)) := HF5.out
    refine ⟨_, rfl, ?_, below_drewN HBw3_2_10_11_12.out m9⟩
    rw [hfd]
    exact hfin.mono fun _ h => Nat.le_of_succ_le h.2
  · skip
    refine hOp_keeps (by rfl) rfl (fun c1 => ?_)
    go_wp2_with fail
    obtain ⟨w3_10, hw3_10⟩ : ∃ W, (w3.drewN c1).alloc (.cells #[.string ⟨#[99, 108, 111, 115, 101, 100]⟩, .pointer none, .pointer none, .int .i64 0, .string ⟨#[]⟩, .pointer none, .pointer (some ⟨bu, 7, none⟩), .int .i64 0] 68) = W := ⟨_, rfl⟩
    have HNw3_10 := Lib.hid (show w3_10.heap[w.heap.size]? = some (.cells #[.string ⟨#[]⟩, .pointer (some ⟨bu, 1, none⟩), .pointer none, .int .i64 0] 68 (0, 0)) by rw [← hw3_10]; exact kept_allocP HNw3.out c1)
    have HBw3_10 := Lib.hid (show Below w.heap.size w w3_10 by rw [← hw3_10]; exact (below_drewN HBw3.out c1).alloc (by exact HBw3.out.size) _)
    have LWw3_10 := Lib.hid (show w3.heap.size ≤ w3_10.heap.size by rw [← hw3_10]; exact Nat.le_trans LWw3.out (Nat.le_trans (Nat.le_of_eq rfl) (growP _ _ _)))
    have HTw3_10 := Lib.hid (show Ow (pdc bu bn bp) 4 w3_10 (w.heap.size + 1) 68 (.slice (some ⟨w1.heap.size, 0, none⟩) 4 4) timesF by rw [← hw3_10]; exact (HTw3.out.drewN c1).alloc _)
    have HEw3_10 := Lib.hid (show Sl (pdc bu bn bp) 4 w3_10 (.slice (some ⟨w3.heap.size, 0, none⟩) 2 2) ([Fld.word kClosed, Fld.num 7 0] : List Fld) (fun _ => True) by rw [← hw3_10]; exact Sl.newl _ (pdc_len _ _ _) rfl rfl (by decide) rfl)
    rw [hw3_10]
    clear hw3_10
    show _ ∧ _
    refine ⟨HNw3_10.out, ?_⟩
    refine goon_two 2 11 (by kernel_rfl) ?_ ?_
    · skip
      refine hOp_keeps (by rfl) rfl (fun c2 => ?_)
      go_wp2_with fail
      obtain ⟨w3_10_2, hw3_10_2⟩ : ∃ W, (w3_10.drewN c2).alloc (.cells #[.string ⟨#[104, 97, 122, 97, 114, 100]⟩, .pointer none, .pointer none, .int .i64 0, .string ⟨#[]⟩, .pointer (some ⟨bu, 1, none⟩), .pointer none, .int .i64 0] 68) = W := ⟨_, rfl⟩
      have HNw3_10_2 := Lib.hid (show w3_10_2.heap[w.heap.size]? = some (.cells #[.string ⟨#[]⟩, .pointer (some ⟨bu, 1, none⟩), .pointer none, .int .i64 0] 68 (0, 0)) by rw [← hw3_10_2]; exact kept_allocP HNw3_10.out c2)
      have HBw3_10_2 := Lib.hid (show Below w.heap.size w w3_10_2 by rw [← hw3_10_2]; exact (below_drewN HBw3_10.out c2).alloc (by exact HBw3_10.out.size) _)
      have LWw3_10_2 := Lib.hid (show w3.heap.size ≤ w3_10_2.heap.size by rw [← hw3_10_2]; exact Nat.le_trans LWw3_10.out (Nat.le_trans (Nat.le_of_eq rfl) (growP _ _ _)))
      have HTw3_10_2 := Lib.hid (show Ow (pdc bu bn bp) 4 w3_10_2 (w.heap.size + 1) 68 (.slice (some ⟨w1.heap.size, 0, none⟩) 4 4) timesF by rw [← hw3_10_2]; exact (HTw3_10.out.drewN c2).alloc _)
      have HEw3_10_2 := Lib.hid (show Sl (pdc bu bn bp) 4 w3_10_2 (.slice (some ⟨w3.heap.size, 0, none⟩) 2 2) ([Fld.word kClosed, Fld.num 7 0] : List Fld) (fun _ => True) by rw [← hw3_10_2]; exact (HEw3_10.out.drewN c2).alloc _)
      have HHw3_10_2 := Lib.hid (show Ow (pdc bu bn bp) 4 w3_10_2 (w.heap.size + 1) 68 (.slice (some ⟨w3_10.heap.size, 0, none⟩) 2 2) ([Fld.word kHazard, Fld.name] : List Fld) by rw [← hw3_10_2]; exact Ow.newlP _ (pdc_len _ _ _) rfl rfl (by decide) rfl (by show w.heap.size + 1 ≤ w3_10.heap.size; have := L13.out; have := LWw3_10.out; have := Y1.out; omega))
      rw [hw3_10_2]
      clear hw3_10_2
      show _ ∧ _
      refine ⟨HNw3_10_2.out, ?_⟩
      refine goon_any [11] (by decide) (by kernel_rfl) ?_
      intro ii hii
      obtain rfl := List.mem_singleton.1 hii
      clear hii
      refine hOp_keeps (by rfl) rfl (fun c3 => ?_)
      go_wp2_with (at_builtin; refine wpList_append_sl _ rfl _ _ _ rfl (w.heap.size + 1) 68 i0 _ 40 Tryz.underlying64 hi0 hz0 hz1 hz2 (by rfl) (by omega) (pdc_len _ _ _) (pdc_one _ _ _) _ _ timesF ([Fld.word kClosed, Fld.num 7 0] : List Fld) rfl rfl (HTw3_10_2.out.drewN c3) (HEw3_10_2.out.drewN c3) (by decide) (by decide) (by show w.heap.size + 1 ≤ w3_10_2.heap.size; have := L13.out; have := LWw3_10_2.out; have := Y1.out; omega) ?_; intro vr w3_10_2_11 hown hg hmv; obtain ⟨Ar, nr, cr, er⟩ := ow_form hown; subst er)
      have HNw3_10_2_11 := Lib.hid (show w3_10_2_11.heap[w.heap.size]? = some (.cells #[.string ⟨#[]⟩, .pointer (some ⟨bu, 1, none⟩), .pointer none, .int .i64 0] 68 (0, 0)) from (hg.block w.heap.size (by show w.heap.size < w3_10_2.heap.size; have := L13.out; have := LWw3_10_2.out; have := Y1.out; omega) (fun e => by have e : w1.heap.size = w.heap.size := Option.some.inj e.symm; have := Y1.out; omega)).trans HNw3_10_2.out)
      have HBw3_10_2_11 := Lib.hid (show Below w.heap.size w w3_10_2_11 from (below_drewN HBw3_10_2.out c3).grown hg (by exact HBw3_10_2.out.size) fun q hq => Nat.le_of_succ_le (HTw3_10_2.out.lt hq).1)
      have LWw3_10_2_11 := Lib.hid (show w3.heap.size ≤ w3_10_2_11.heap.size from Nat.le_trans LWw3_10_2.out hg.size)
      have HHw3_10_2_11 := Lib.hid (show Ow (pdc bu bn bp) 4 w3_10_2_11 (w.heap.size + 1) 68 (.slice (some ⟨w3_10.heap.size, 0, none⟩) 2 2) ([Fld.word kHazard, Fld.name] : List Fld) from (HHw3_10_2.out.drewN c3).kept hg (.inr (fun e => by have e : w3_10.heap.size = w1.heap.size := Option.some.inj e; have := L13.out; have := LWw3_10.out; omega)))
      have HRw3_10_2_11 := Lib.hid (show Sl (pdc bu bn bp) 4 w3_10_2_11 (.slice Ar nr cr) (timesF ++ ([Fld.word kClosed, Fld.num 7 0] : List Fld)) (fun _ => True) from (hown.sl (pdc_len _ _ _)).mono fun _ _ => trivial)
      clear hown hg hmv
      show _ ∧ _
      refine ⟨HNw3_10_2_11.out, ?_⟩
      refine goon_any [12] (by decide) (by kernel_rfl) ?_
      intro ii hii
      obtain rfl := List.mem_singleton.1 hii
      clear hii
      refine hOp_keeps (by rfl) rfl (fun c4 => ?_)
      go_wp2_with (at_builtin; go_loud (refine wpList_append_sl _ rfl _ _ _ rfl (w.heap.size + 1) 68 i0 _ 40 Tryz.underlying64 hi0 hz0 hz1 hz2 (by rfl) (by omega) (pdc_len _ _ _) (pdc_one _ _ _) _ _ ([Fld.word kHazard, Fld.name] : List Fld) (timesF ++ ([Fld.word kClosed, Fld.num 7 0] : List Fld)) rfl rfl (HHw3_10_2_11.out.drewN c4) (HRw3_10_2_11.out.drewN c4) (by decide) (by decide) (by show w.heap.size + 1 ≤ w3_10_2_11.heap.size; have := L13.out; have := LWw3_10_2_11.out; have := Y1.out; omega) ?_; intro vq w3_10_2_11_12 hown hg hmv; obtain ⟨Aq, nq, cq, eq⟩ := ow_form hown; subst eq))
      have HNw3_10_2_11_12 := Lib.hid (show w3_10_2_11_12.heap[w.heap.size]? = some (.cells #[.string ⟨#[]⟩, .pointer (some ⟨bu, 1, none⟩), .pointer none, .int .i64 0] 68 (0, 0)) from (hg.block w.heap.size (by show w.heap.size < w3_10_2_11.heap.size; have := L13.out; have := LWw3_10_2_11.out; have := Y1.out; omega) (fun e => by have e : w3_10.heap.size = w.heap.size := Option.some.inj e.symm; have := L13.out; have := LWw3_10.out; have := Y1.out; omega)).trans HNw3_10_2_11.out)
      have HBw3_10_2_11_12 := Lib.hid (show Below w.heap.size w w3_10_2_11_12 from (below_drewN HBw3_10_2_11.out c4).grown hg (by exact HBw3_10_2_11.out.size) fun q hq => Nat.le_of_succ_le (HHw3_10_2_11.out.lt hq).1)
      have HR12 := Lib.hid hown
      clear hown hg hmv
      show _ ∧ _
      refine ⟨HNw3_10_2_11_12.out, ?_⟩
      refine goon_walk [13] 0 rfl (by kernel_rfl) (by kernel_rfl) (fun _ _ h => h) ?_
      repeat (first | (refine wpKind_free (v := ?_) (by rfl) rfl (by rfl) ?_ ?_; rotate_left 1; (focus (intro wy; go_simp; try with_reducible rfl; done)); try simp only [Act.put, List.setIfInBounds_toArray, List.set_cons_zero, List.set_cons_succ]))
      refine wpKind_fin ?_
      refine goon_end (by kernel_rfl) (fun m9 => ?_)
      go_wp2_with fail
      go_ret
      have hfin := (HR12.out.drewN m9).sl (pdc_len _ _ _)
      have hfd : formD k = ([Fld.word kHazard, Fld.name] : List Fld) ++ (timesF ++ ([Fld.word kClosed, Fld.num 7 0] : List Fld)) := HF5.out
      refine ⟨_, rfl, ?_, below_drewN HBw3_10_2_11_12.out m9⟩
      rw [hfd]
      exact hfin.mono fun _ h => Nat.le_of_succ_le h.2
    · skip
      refine hOp_keeps (by rfl) rfl (fun c2 => ?_)
      go_wp2_with (at_builtin; refine wpList_append_sl _ rfl _ _ _ rfl (w.heap.size + 1) 68 i0 _ 40 Tryz.underlying64 hi0 hz0 hz1 hz2 (by rfl) (by omega) (pdc_len _ _ _) (pdc_one _ _ _) _ _ timesF ([Fld.word kClosed, Fld.num 7 0] : List Fld) rfl rfl (HTw3_10.out.drewN c2) (HEw3_10.out.drewN c2) (by decide) (by decide) (by show w.heap.size + 1 ≤ w3_10.heap.size; have := L13.out; have := LWw3_10.out; have := Y1.out; omega) ?_; intro vr w3_10_11 hown hg hmv; obtain ⟨Ar, nr, cr, er⟩ := ow_form hown; subst er)
      have HNw3_10_11 := Lib.hid (show w3_10_11.heap[w.heap.size]? = some (.cells #[.string ⟨#[]⟩, .pointer (some ⟨bu, 1, none⟩), .pointer none, .int .i64 0] 68 (0, 0)) from (hg.block w.heap.size (by show w.heap.size < w3_10.heap.size; have := L13.out; have := LWw3_10.out; have := Y1.out; omega) (fun e => by have e : w1.heap.size = w.heap.size := Option.some.inj e.symm; have := Y1.out; omega)).trans HNw3_10.out)
      have HBw3_10_11 := Lib.hid (show Below w.heap.size w w3_10_11 from (below_drewN HBw3_10.out c2).grown hg (by exact HBw3_10.out.size) fun q hq => Nat.le_of_succ_le (HTw3_10.out.lt hq).1)
      have LWw3_10_11 := Lib.hid (show w3.heap.size ≤ w3_10_11.heap.size from Nat.le_trans LWw3_10.out hg.size)
      have HRw3_10_11 := Lib.hid (show Sl (pdc bu bn bp) 4 w3_10_11 (.slice Ar nr cr) (timesF ++ ([Fld.word kClosed, Fld.num 7 0] : List Fld)) (fun _ => True) from (hown.sl (pdc_len _ _ _)).mono fun _ _ => trivial)
      clear hown hg hmv
      show _ ∧ _
      refine ⟨HNw3_10_11.out, ?_⟩
      refine goon_any [2] (by decide) (by kernel_rfl) ?_
      intro ii hii
      obtain rfl := List.mem_singleton.1 hii
      clear hii
      refine hOp_keeps (by rfl) rfl (fun c3 => ?_)
      go_wp2_with fail
      obtain ⟨w3_10_11_2, hw3_10_11_2⟩ : ∃ W, (w3_10_11.drewN c3).alloc (.cells #[.string ⟨#[104, 97, 122, 97, 114, 100]⟩, .pointer none, .pointer none, .int .i64 0, .string ⟨#[]⟩, .pointer (some ⟨bu, 1, none⟩), .pointer none, .int .i64 0] 68) = W := ⟨_, rfl⟩
      have HNw3_10_11_2 := Lib.hid (show w3_10_11_2.heap[w.heap.size]? = some (.cells #[.string ⟨#[]⟩, .pointer (some ⟨bu, 1, none⟩), .pointer none, .int .i64 0] 68 (0, 0)) by rw [← hw3_10_11_2]; exact kept_allocP HNw3_10_11.out c3)
      have HBw3_10_11_2 := Lib.hid (show Below w.heap.size w w3_10_11_2 by rw [← hw3_10_11_2]; exact (below_drewN HBw3_10_11.out c3).alloc (by exact HBw3_10_11.out.size) _)
      have LWw3_10_11_2 := Lib.hid (show w3.heap.size ≤ w3_10_11_2.heap.size by rw [← hw3_10_11_2]; exact Nat.le_trans LWw3_10_11.out (Nat.le_trans (Nat.le_of_eq rfl) (growP _ _ _)))
      have HRw3_10_11_2 := Lib.hid (show Sl (pdc bu bn bp) 4 w3_10_11_2 (.slice Ar nr cr) (timesF ++ ([Fld.word kClosed, Fld.num 7 0] : List Fld)) (fun _ => True) by rw [← hw3_10_11_2]; exact (HRw3_10_11.out.drewN c3).alloc _)
      have HHw3_10_11_2 := Lib.hid (show Ow (pdc bu bn bp) 4 w3_10_11_2 (w.heap.size + 1) 68 (.slice (some ⟨w3_10_11.heap.size, 0, none⟩) 2 2) ([Fld.word kHazard, Fld.name] : List Fld) by rw [← hw3_10_11_2]; exact Ow.newlP _ (pdc_len _ _ _) rfl rfl (by decide) rfl (by show w.heap.size + 1 ≤ w3_10_11.heap.size; have := L13.out; have := LWw3_10_11.out; have := Y1.out; omega))
      rw [hw3_10_11_2]
      clear hw3_10_11_2
      show _ ∧ _
      refine ⟨HNw3_10_11_2.out, ?_⟩
      refine goon_any [12] (by decide) (by kernel_rfl) ?_
      intro ii hii
      obtain rfl := List.mem_singleton.1 hii
      clear hii
      refine hOp_keeps (by rfl) rfl (fun c4 => ?_)
      go_wp2_with (at_builtin; go_loud (refine wpList_append_sl _ rfl _ _ _ rfl (w.heap.size + 1) 68 i0 _ 40 Tryz.underlying64 hi0 hz0 hz1 hz2 (by rfl) (by omega) (pdc_len _ _ _) (pdc_one _ _ _) _ _ ([Fld.word kHazard, Fld.name] : List Fld) (timesF ++ ([Fld.word kClosed, Fld.num 7 0] : List Fld)) rfl rfl (HHw3_10_11_2.out.drewN c4) (HRw3_10_11_2.out.drewN c4) (by decide) (by decide) (by show w.heap.size + 1 ≤ w3_10_11_2.heap.size; have := L13.out; have := LWw3_10_11_2.out; have := Y1.out; omega) ?_; intro vq w3_10_11_2_12 hown hg hmv; obtain ⟨Aq, nq, cq, eq⟩ := ow_form hown; subst eq))
      have HNw3_10_11_2_12 := Lib.hid (show w3_10_11_2_12.heap[w.heap.size]? = some (.cells #[.string ⟨#[]⟩, .pointer (some ⟨bu, 1, none⟩), .pointer none, .int .i64 0] 68 (0, 0)) from (hg.block w.heap.size (by show w.heap.size < w3_10_11_2.heap.size; have := L13.out; have := LWw3_10_11_2.out; have := Y1.out; omega) (fun e => by have e : w3_10_11.heap.size = w.heap.size := Option.some.inj e.symm; have := L13.out; have := LWw3_10_11.out; have := Y1.out; omega)).trans HNw3_10_11_2.out)
      have HBw3_10_11_2_12 := Lib.hid (show Below w.heap.size w w3_10_11_2_12 from (below_drewN HBw3_10_11_2.out c4).grown hg (by exact HBw3_10_11_2.out.size) fun q hq => Nat.le_of_succ_le (HHw3_10_11_2.out.lt hq).1)
      have HR12 := Lib.hid hown
      clear hown hg hmv
      show _ ∧ _
      refine ⟨HNw3_10_11_2_12.out, ?_⟩
      refine goon_walk [13] 0 rfl (by kernel_rfl) (by kernel_rfl) (fun _ _ h => h) ?_
      repeat (first | (refine wpKind_free (v := ?_) (by rfl) rfl (by rfl) ?_ ?_; rotate_left 1; (focus (intro wy; go_simp; try with_reducible rfl; done)); try simp only [Act.put, List.setIfInBounds_toArray, List.set_cons_zero, List.set_cons_succ]))
      refine wpKind_fin ?_
      refine goon_end (by kernel_rfl) (fun m9 => ?_)
      go_wp2_with fail
      go_ret
      have hfin := (HR12.out.drewN m9).sl (pdc_len _ _ _)
      have hfd : formD k = ([Fld.word kHazard, Fld.name] : List Fld) ++ (timesF ++ ([Fld.word kClosed, Fld.num 7 0] : List Fld)) := HF5.out
      refine ⟨_, rfl, ?_, below_drewN HBw3_10_11_2_12.out m9⟩
      rw [hfd]
      exact hfin.mono fun _ h => Nat.le_of_succ_le h.2
end Go.Proofs.YtlclkeihkkpdbaaGreatDoor
