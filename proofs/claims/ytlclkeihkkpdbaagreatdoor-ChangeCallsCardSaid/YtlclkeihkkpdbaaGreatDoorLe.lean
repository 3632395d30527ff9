/- Walk of the cursor: put. -/
import Derived.Test.YtlclkeihkkpdbaaGreatDoorLd
namespace Go.Proofs.YtlclkeihkkpdbaaGreatDoor
open Go.RowKit
theorem info_tok : (Tryz.prog.info? 51).map (fun i => (i.zero, i.size, i.bytes)) = some (some (.agg #[.int .i64 0, .string ByteArray.empty, .int .i64 0, .int .i64 0, .int .i64 0]), 5, 48) := by kernel_rfl
set_option maxHeartbeats 4000000 in
set_option maxRecDepth 100000 in
theorem put_any (w : World) (B b : Nat) (c : Cur) (h : CurAt B b c w) (hBw : B ≤ w.heap.size) (kind : Int) (text : List UInt8) (num : Int) (n : Nat) (hn : n ≤ 100000) (hc : c.Ok) (ho : c.out.length ≤ 200000) :
    Calls Tryz.prog 74 #[.pointer (some ⟨b, 0, none⟩), .agg #[.int .i64 kind, .string (ba text), .int .i64 num, .int .i64 0, .int .i64 0], .int .i64 n] w fun r w' => r = .returned St.any.v ∧ CurAt B b (c.put kind text num n) w' ∧ Below B w w' := by
  obtain ⟨i0, hi0, hz0, hz1, hz2⟩ := info_parts info_tok
  have k1 := hc.size
  have k2 := hc.pos
  have k3 := hc.org
  obtain ⟨w1, hw1⟩ : ∃ w1, w.alloc (.cells #[.int .i64 kind, .string (ba text), .int .i64 num, .int .i64 0, .int .i64 0] 51) = w1 := ⟨_, rfl⟩
  obtain ⟨hB, v, hb, hov⟩ := h
  have hlt : b < w.heap.size := (Array.getElem?_eq_some_iff.1 hb).1
  have hb1 : w1.heap[b]? = some (.cells (c.cells v) 98 (0, 0)) := by rw [← hw1, heap_alloc_old _ _ hlt]; exact hb
  have hq1 : w1.heap[w.heap.size]? = some (.cells #[.int .i64 kind, .string (ba text), .int .i64 num, .int .i64 0, .int .i64 0] 51 (0, 0)) := by rw [← hw1]; exact heap_alloc_new _ _
  have ho1 : Ow tkc 5 w1 B 51 v c.out := by rw [← hw1]; exact hov.alloc _
  have hB1 : Below B w w1 := by rw [← hw1]; exact (Below.refl _ _).alloc hBw _
  have hk1 : CurAt B b c w1 := ⟨hB, v, hb1, ho1⟩
  have HC := Lib.hid fun n => col_any (w1.drewN n) B b c (hk1.drewN n) c.pos (by omega) (by omega)
  obtain ⟨Av, nv, cv, ev⟩ := ow_form hov
  subst ev
  have HB := Lib.hid hb1
  have HQ := Lib.hid hq1
  have HO := Lib.hid ho1
  have HB1 := Lib.hid hB1
  have HLT := Lib.hid hlt
  have hSw := hb1
  have hqn : w.heap.size ≠ b := by omega
  have HQN := Lib.hid hqn
  have HOV := Lib.hid (show (Value.slice Av nv cv).ownBlock ≠ some w.heap.size from fun e => by have := (hov.lt e).2; omega)
  clear hb hov hb1 hq1 ho1 hB1 hk1 hlt hqn
  go_enter Tryz.func74, Tryz.ntmps74
  go_wp2_with fail
  clear hw1
  refine wp_region_kinds (fun wy => wy.heap[b]? = some (.cells (c.cells (.slice Av nv cv)) 98 (0, 0))) [9, 11, 13] [] [3, 8] [0, 1, 2, 4, 5, 6, 7, 10, 12] [0, 1, 2, 3, 4, 5, 6, 7, 8, 10, 9, 11, 12, 13] (by kernel_rfl) (by kernel_rfl) (fun w n h => h) ?_
  repeat (first | (refine wpKind_free (v := ?_) (by rfl) rfl (by rfl) ?_ ?_; rotate_left 1; (focus (intro wy; go_simp; try with_reducible rfl; done)); try simp only [Act.put, List.setIfInBounds_toArray, List.set_cons_zero, List.set_cons_succ]) | (refine wpKind_held (v := ?_) (by rfl) rfl (by rfl) hSw ?_ ?_; rotate_left 1; (focus (intro wy hSy; have s1 : wy.cell? ⟨b, 1, none⟩ = some (.int .i64 c.line) := Lib.cell_of_heap hSy 1; have s3 : wy.cell? ⟨b, 3, none⟩ = some (.int .i64 c.pos) := Lib.cell_of_heap hSy 3; have s4 : wy.cell? ⟨b, 4, none⟩ = some (.slice Av nv cv) := Lib.cell_of_heap hSy 4; go_simp; try with_reducible rfl; done)); try simp only [Act.put, List.setIfInBounds_toArray, List.set_cons_zero, List.set_cons_succ]))
  refine wpKind_keeps (by rfl) rfl (fun n1 => ?_)
  go_wp2_with fail
  refine (HC.out n1).mono ?_
  rintro e w2 ⟨rfl, rfl⟩
  go_wp2_with fail
  show _ ∧ _
  refine ⟨hSw, ?_⟩
  clear hSw
  have x3 : w1.cell? ⟨w.heap.size, 3, none⟩ = some (.int .i64 0) := Lib.cell_of_heap HQ.out 3
  have f3 : w1.frozen? ⟨w.heap.size, 3, none⟩ = false := Lib.frozen_of_heap HQ.out 3
  refine wpKind_keeps (by rfl) rfl (fun n2 => ?_)
  go_wp2_with fail
  clear x3 f3
  generalize hw2 : World.setCell _ ⟨w.heap.size, 3, none⟩ (.int .i64 (c.line : Int)) = w2
  have hq2 : w2.heap[w.heap.size]? = some (.cells #[.int .i64 kind, .string (ba text), .int .i64 num, .int .i64 c.line, .int .i64 0] 51 (0, 0)) := by rw [← hw2]; exact heap_setCell_same _ _ 3 _ _ _ HQ.out
  have hSw : w2.heap[b]? = some (.cells (c.cells (.slice Av nv cv)) 98 (0, 0)) := by rw [← hw2, heap_setCell_other _ _ _ _ (fun e => HQN.out e.symm)]; exact HB.out
  have ho2 : Ow tkc 5 w2 B 51 (.slice Av nv cv) c.out := by rw [← hw2]; first | exact HO.out.set HOV.out | exact (HO.out.drewN (n1 + n2)).set HOV.out
  have hB2 : Below B w w2 := by rw [← hw2]; first | exact HB1.out.setCell (p := ⟨w.heap.size, 3, none⟩) hBw _ | exact (below_drewN HB1.out _).setCell (p := ⟨w.heap.size, 3, none⟩) hBw _
  have HB2 := Lib.hid hSw
  have HQ2 := Lib.hid hq2
  have HO2 := Lib.hid ho2
  have HBB2 := Lib.hid hB2
  clear hw2 hq2 ho2 hB2
  show _ ∧ _
  refine ⟨hSw, ?_⟩
  repeat (first | (refine wpKind_free (v := ?_) (by rfl) rfl (by rfl) ?_ ?_; rotate_left 1; (focus (intro wy; go_simp; try with_reducible rfl; done)); try simp only [Act.put, List.setIfInBounds_toArray, List.set_cons_zero, List.set_cons_succ]) | (refine wpKind_held (v := ?_) (by rfl) rfl (by rfl) hSw ?_ ?_; rotate_left 1; (focus (intro wy hSy; have s1 : wy.cell? ⟨b, 1, none⟩ = some (.int .i64 c.line) := Lib.cell_of_heap hSy 1; have s3 : wy.cell? ⟨b, 3, none⟩ = some (.int .i64 c.pos) := Lib.cell_of_heap hSy 3; have s4 : wy.cell? ⟨b, 4, none⟩ = some (.slice Av nv cv) := Lib.cell_of_heap hSy 4; go_simp; try with_reducible rfl; done)); try simp only [Act.put, List.setIfInBounds_toArray, List.set_cons_zero, List.set_cons_succ]))
  have x4 : w2.cell? ⟨w.heap.size, 4, none⟩ = some (.int .i64 0) := Lib.cell_of_heap HQ2.out 4
  have f4 : w2.frozen? ⟨w.heap.size, 4, none⟩ = false := Lib.frozen_of_heap HQ2.out 4
  clear hSw
  refine wpKind_keeps (by rfl) rfl (fun n3 => ?_)
  go_wp2_with fail
  clear x4 f4
  generalize hw3 : World.setCell _ ⟨w.heap.size, 4, none⟩ (.int .i64 (c.col c.pos)) = w3
  have hq3 : w3.heap[w.heap.size]? = some (.cells #[.int .i64 kind, .string (ba text), .int .i64 num, .int .i64 c.line, .int .i64 (c.col c.pos)] 51 (0, 0)) := by rw [← hw3]; exact heap_setCell_same _ _ 4 _ _ _ HQ2.out
  have hb3 : w3.heap[b]? = some (.cells (c.cells (.slice Av nv cv)) 98 (0, 0)) := by rw [← hw3, heap_setCell_other _ _ _ _ (fun e => HQN.out e.symm)]; exact HB2.out
  have ho3 : Ow tkc 5 w3 B 51 (.slice Av nv cv) c.out := by rw [← hw3]; first | exact HO2.out.set HOV.out | exact (HO2.out.drewN n3).set HOV.out
  have hB3 : Below B w w3 := by rw [← hw3]; first | exact HBB2.out.setCell (p := ⟨w.heap.size, 4, none⟩) hBw _ | exact (below_drewN HBB2.out _).setCell (p := ⟨w.heap.size, 4, none⟩) hBw _
  show _ ∧ _
  refine ⟨hb3, ?_⟩
  refine wpKind_nil fun n4 => ?_
  obtain ⟨w4, hw4⟩ : ∃ w4, w3.drewN n4 = w4 := ⟨_, rfl⟩
  have HB4 := Lib.hid (show w4.heap[b]? = some (.cells (c.cells (.slice Av nv cv)) 98 (0, 0)) by rw [← hw4]; exact hb3)
  have HQ4 := Lib.hid (show w4.heap[w.heap.size]? = some (.cells #[.int .i64 kind, .string (ba text), .int .i64 num, .int .i64 c.line, .int .i64 (c.col c.pos)] 51 (0, 0)) by rw [← hw4]; exact hq3)
  have HO4 := Lib.hid (show Ow tkc 5 w4 B 51 (.slice Av nv cv) c.out by rw [← hw4]; exact ho3.drewN n4)
  have HBB4 := Lib.hid (show Below B w w4 by rw [← hw4]; exact below_drewN hB3 n4)
  rw [hw4]
  clear hw3 hq3 hb3 ho3 hB3 hw4 HB HQ HO HB1 HB2 HQ2 HO2 HBB2 HC
  go_wp2_with fail
  have hSw : w4.heap[b]? = some (.cells (c.cells (.slice Av nv cv)) 98 (0, 0)) ∧ w4.heap[w.heap.size]? = some (.cells #[.int .i64 kind, .string (ba text), .int .i64 num, .int .i64 c.line, .int .i64 (c.col c.pos)] 51 (0, 0)) := ⟨HB4.out, HQ4.out⟩
  have HSZ4 := Lib.hid (Nat.le_trans hBw HBB4.out.size)
  refine wp_region_kinds (fun wy => wy.heap[b]? = some (.cells (c.cells (.slice Av nv cv)) 98 (0, 0)) ∧ wy.heap[w.heap.size]? = some (.cells #[.int .i64 kind, .string (ba text), .int .i64 num, .int .i64 c.line, .int .i64 (c.col c.pos)] 51 (0, 0))) [8, 9] [18, 21, 24] [6, 7, 13] [0, 1, 2, 3, 4, 5, 10, 11, 12, 14, 15, 16, 17, 19, 20, 22, 23] [0, 1, 2, 3, 4, 5, 6, 7, 10, 11, 12, 13, 14, 15, 8, 9, 16, 17, 18, 19, 20, 21, 22, 23, 24] (by kernel_rfl) (by kernel_rfl) (fun w n h => h) ?_
  repeat (first | (refine wpKind_free (v := ?_) (by rfl) rfl (by rfl) ?_ ?_; rotate_left 1; (focus (intro wy; go_simp; try with_reducible rfl; done)); try simp only [Act.put, List.setIfInBounds_toArray, List.set_cons_zero, List.set_cons_succ]) | (refine wpKind_held (v := ?_) (by rfl) rfl (by rfl) hSw ?_ ?_; rotate_left 1; (focus (intro wy hSy; obtain ⟨hSb, hSq⟩ := hSy; have s1 : wy.cell? ⟨b, 1, none⟩ = some (.int .i64 c.line) := Lib.cell_of_heap hSb 1; have s3 : wy.cell? ⟨b, 3, none⟩ = some (.int .i64 c.pos) := Lib.cell_of_heap hSb 3; have s4 : wy.cell? ⟨b, 4, none⟩ = some (.slice Av nv cv) := Lib.cell_of_heap hSb 4; have q0 : wy.cell? ⟨w.heap.size, 0, none⟩ = some (.int .i64 kind) := Lib.cell_of_heap hSq 0; have q1 : wy.cell? ⟨w.heap.size, 1, none⟩ = some (.string (ba text)) := Lib.cell_of_heap hSq 1; have q2 : wy.cell? ⟨w.heap.size, 2, none⟩ = some (.int .i64 num) := Lib.cell_of_heap hSq 2; have q3 : wy.cell? ⟨w.heap.size, 3, none⟩ = some (.int .i64 c.line) := Lib.cell_of_heap hSq 3; have q4 : wy.cell? ⟨w.heap.size, 4, none⟩ = some (.int .i64 (c.col c.pos)) := Lib.cell_of_heap hSq 4; go_simp; try with_reducible rfl; done)); try simp only [Act.put, List.setIfInBounds_toArray, List.set_cons_zero, List.set_cons_succ]))
  refine wpKind_keeps (by rfl) rfl (fun n5 => ?_)
  go_wp2_with fail
  generalize hw5 : World.alloc _ (.cells #[.int .i64 kind, .string (ba text), .int .i64 num, .int .i64 (c.line : Int), .int .i64 (c.col c.pos)] 51) = w5
  have hlb : b < w4.heap.size := (Array.getElem?_eq_some_iff.1 HB4.out).1
  have hlq : w.heap.size < w4.heap.size := (Array.getElem?_eq_some_iff.1 HQ4.out).1
  have hb5 : w5.heap[b]? = some (.cells (c.cells (.slice Av nv cv)) 98 (0, 0)) := by rw [← hw5]; exact (heap_alloc_old (w4.drewN n5) _ hlb).trans HB4.out
  have hq5 : w5.heap[w.heap.size]? = some (.cells #[.int .i64 kind, .string (ba text), .int .i64 num, .int .i64 c.line, .int .i64 (c.col c.pos)] 51 (0, 0)) := by rw [← hw5]; exact (heap_alloc_old (w4.drewN n5) _ hlq).trans HQ4.out
  have hx5 : Sl tkc 5 w5 (.slice (some ⟨w4.heap.size, 0, none⟩) 1 1) [⟨kind, text, num, c.line, c.col c.pos⟩] (fun _ => True) := by rw [← hw5]; exact Sl.newl [⟨kind, text, num, c.line, c.col c.pos⟩] tkc_len rfl rfl (by show 1 ≤ maxLen; decide) rfl
  have ho5 : Ow tkc 5 w5 B 51 (.slice Av nv cv) c.out := by rw [← hw5]; exact (HO4.out.drewN n5).alloc _
  have hB5 : Below B w w5 := by rw [← hw5]; exact (below_drewN HBB4.out n5).alloc (by exact HSZ4.out) _
  have HB5 := Lib.hid hb5
  have HQ5 := Lib.hid hq5
  have HX5 := Lib.hid hx5
  have HO5 := Lib.hid ho5
  have HBB5 := Lib.hid hB5
  have HSZ5 := Lib.hid (Nat.le_trans hBw hB5.size)
  clear hw5 hlb hlq hx5 ho5 hB5 hSw HB4 HQ4 HO4 HBB4
  show _ ∧ _
  refine ⟨⟨hb5, hq5⟩, ?_⟩
  have hSw := And.intro hb5 hq5
  clear hb5 hq5
  repeat (first | (refine wpKind_free (v := ?_) (by rfl) rfl (by rfl) ?_ ?_; rotate_left 1; (focus (intro wy; go_simp; try with_reducible rfl; done)); try simp only [Act.put, List.setIfInBounds_toArray, List.set_cons_zero, List.set_cons_succ]) | (refine wpKind_held (v := ?_) (by rfl) rfl (by rfl) hSw ?_ ?_; rotate_left 1; (focus (intro wy hSy; obtain ⟨hSb, hSq⟩ := hSy; have s1 : wy.cell? ⟨b, 1, none⟩ = some (.int .i64 c.line) := Lib.cell_of_heap hSb 1; have s3 : wy.cell? ⟨b, 3, none⟩ = some (.int .i64 c.pos) := Lib.cell_of_heap hSb 3; have s4 : wy.cell? ⟨b, 4, none⟩ = some (.slice Av nv cv) := Lib.cell_of_heap hSb 4; have q0 : wy.cell? ⟨w.heap.size, 0, none⟩ = some (.int .i64 kind) := Lib.cell_of_heap hSq 0; have q1 : wy.cell? ⟨w.heap.size, 1, none⟩ = some (.string (ba text)) := Lib.cell_of_heap hSq 1; have q2 : wy.cell? ⟨w.heap.size, 2, none⟩ = some (.int .i64 num) := Lib.cell_of_heap hSq 2; have q3 : wy.cell? ⟨w.heap.size, 3, none⟩ = some (.int .i64 c.line) := Lib.cell_of_heap hSq 3; have q4 : wy.cell? ⟨w.heap.size, 4, none⟩ = some (.int .i64 (c.col c.pos)) := Lib.cell_of_heap hSq 4; go_simp; try with_reducible rfl; done)); try simp only [Act.put, List.setIfInBounds_toArray, List.set_cons_zero, List.set_cons_succ]))
  refine wpKind_keeps (by rfl) rfl (fun n6 => ?_)
  go_wp2_with (at_builtin; refine wpList_append_sl _ rfl _ _ _ rfl B 51 i0 _ 48 Tryz.underlying41 hi0 hz0 hz1 hz2 (by rfl) (by omega) tkc_len tkc_one _ _ c.out [⟨kind, text, num, c.line, c.col c.pos⟩] rfl rfl (HO5.out.drewN _) (HX5.out.drewN _) (by simp only [maxLen, List.length_cons, List.length_nil]; omega) (by simp only [List.length_cons, List.length_nil]; omega) (by exact HSZ5.out) ?_; intro v6 w6 hown6 hg6 hmv6; obtain ⟨Aw, nw, cw, ew⟩ := ow_form hown6; subst ew)
  have hbn : some b ≠ (Value.slice Av nv cv).ownBlock := fun e => ow_ne HO5.out HB5.out (by decide) e.symm
  have hqn : some w.heap.size ≠ (Value.slice Av nv cv).ownBlock := fun e => HOV.out e.symm
  have hb6 : w6.heap[b]? = some (.cells (c.cells (.slice Av nv cv)) 98 (0, 0)) := (hg6.block b (Array.getElem?_eq_some_iff.1 HB5.out).1 hbn).trans HB5.out
  have hq6 : w6.heap[w.heap.size]? = some (.cells #[.int .i64 kind, .string (ba text), .int .i64 num, .int .i64 c.line, .int .i64 (c.col c.pos)] 51 (0, 0)) := (hg6.block _ (Array.getElem?_eq_some_iff.1 HQ5.out).1 hqn).trans HQ5.out
  have hB6 : Below B w w6 := (below_drewN HBB5.out _).grown hg6 HSZ5.out fun k hk => (HO5.out.lt hk).1
  have HB6 := Lib.hid hb6
  have HO6 := Lib.hid hown6
  have HBB6 := Lib.hid hB6
  show _ ∧ _
  refine ⟨⟨hb6, hq6⟩, ?_⟩
  have hne6 := ow_ne hown6 hb6 (by decide)
  clear hb6 hq6 hbn hqn hB6 hown6 hg6 hmv6 hSw HB5 HQ5 HX5 HO5 HBB5
  repeat (first | (refine wpKind_free (v := ?_) (by rfl) rfl (by rfl) ?_ ?_; rotate_left 1; (focus (intro wy; go_simp; try with_reducible rfl; done)); try simp only [Act.put, List.setIfInBounds_toArray, List.set_cons_zero, List.set_cons_succ]) | (refine wpKind_held (v := ?_) (by rfl) rfl (by rfl) hSw ?_ ?_; rotate_left 1; (focus (intro wy hSy; obtain ⟨hSb, hSq⟩ := hSy; have s1 : wy.cell? ⟨b, 1, none⟩ = some (.int .i64 c.line) := Lib.cell_of_heap hSb 1; have s3 : wy.cell? ⟨b, 3, none⟩ = some (.int .i64 c.pos) := Lib.cell_of_heap hSb 3; have s4 : wy.cell? ⟨b, 4, none⟩ = some (.slice Av nv cv) := Lib.cell_of_heap hSb 4; have q0 : wy.cell? ⟨w.heap.size, 0, none⟩ = some (.int .i64 kind) := Lib.cell_of_heap hSq 0; have q1 : wy.cell? ⟨w.heap.size, 1, none⟩ = some (.string (ba text)) := Lib.cell_of_heap hSq 1; have q2 : wy.cell? ⟨w.heap.size, 2, none⟩ = some (.int .i64 num) := Lib.cell_of_heap hSq 2; have q3 : wy.cell? ⟨w.heap.size, 3, none⟩ = some (.int .i64 c.line) := Lib.cell_of_heap hSq 3; have q4 : wy.cell? ⟨w.heap.size, 4, none⟩ = some (.int .i64 (c.col c.pos)) := Lib.cell_of_heap hSq 4; go_simp; try with_reducible rfl; done)); try simp only [Act.put, List.setIfInBounds_toArray, List.set_cons_zero, List.set_cons_succ]))
  have x4 : w6.cell? ⟨b, 4, none⟩ = some (.slice Av nv cv) := Lib.cell_of_heap HB6.out 4
  have f4 : w6.frozen? ⟨b, 4, none⟩ = false := Lib.frozen_of_heap HB6.out 4
  refine wpKind_serial (by rfl) rfl (fun n7 => ?_)
  go_wp2_with fail
  generalize hw7 : World.setCell _ ⟨b, 4, none⟩ (.slice Aw nw cw) = w7
  have hb7 : w7.heap[b]? = some (.cells (c.cells (.slice Aw nw cw)) 98 (0, 0)) := by rw [← hw7]; exact heap_setCell_same _ b 4 _ _ (.slice Aw nw cw) HB6.out
  have ho7 : Ow tkc 5 w7 B 51 (.slice Aw nw cw) (c.out ++ [⟨kind, text, num, c.line, c.col c.pos⟩]) := by rw [← hw7]; first | exact HO6.out.set hne6 | exact (HO6.out.drewN n7).set hne6
  have hB7 : Below B w w7 := by rw [← hw7]; first | exact HBB6.out.setCell (p := ⟨b, 4, none⟩) hB _ | exact (below_drewN HBB6.out _).setCell (p := ⟨b, 4, none⟩) hB _
  have HB7 := Lib.hid hb7
  have HO7 := Lib.hid ho7
  have HBB7 := Lib.hid hB7
  clear hw7 hb7 ho7 hB7 x4 f4 HB6 HO6 HBB6
  show wpKind _ _ _ _ _ _ _ _ _
  repeat (refine wpKind_free (v := ?_) (by rfl) rfl (by rfl) ?_ ?_; rotate_left 1; (focus (intro wy; go_simp; try with_reducible rfl; done)); try simp only [Act.put, List.setIfInBounds_toArray, List.set_cons_zero, List.set_cons_succ])
  have x3 : w7.cell? ⟨b, 3, none⟩ = some (.int .i64 c.pos) := Lib.cell_of_heap HB7.out 3
  have f3 : w7.frozen? ⟨b, 3, none⟩ = false := Lib.frozen_of_heap HB7.out 3
  refine wpKind_serial (by rfl) rfl (fun n8 => ?_)
  go_wp2_with fail
  generalize hw8 : World.setCell _ ⟨b, 3, none⟩ (.int .i64 ((c.pos : Int) + (n : Int))) = w8
  have hb8 : w8.heap[b]? = some (.cells ({ c with pos := c.pos + n }.cells (.slice Aw nw cw)) 98 (0, 0)) := by rw [← hw8]; exact heap_setCell_same _ b 3 _ _ (.int .i64 ((c.pos : Int) + (n : Int))) HB7.out
  have ho8 : Ow tkc 5 w8 B 51 (.slice Aw nw cw) (c.out ++ [⟨kind, text, num, c.line, c.col c.pos⟩]) := by rw [← hw8]; first | exact HO7.out.set hne6 | exact (HO7.out.drewN n8).set hne6
  have hB8 : Below B w w8 := by rw [← hw8]; first | exact HBB7.out.setCell (p := ⟨b, 3, none⟩) hB _ | exact (below_drewN HBB7.out _).setCell (p := ⟨b, 3, none⟩) hB _
  have HB8 := Lib.hid hb8
  have HO8 := Lib.hid ho8
  have HBB8 := Lib.hid hB8
  clear hw8 hb8 ho8 hB8 x3 f3 HB7 HO7 HBB7
  show wpKind _ _ _ _ _ _ _ _ _
  repeat (refine wpKind_free (v := ?_) (by rfl) rfl (by rfl) ?_ ?_; rotate_left 1; (focus (intro wy; go_simp; try with_reducible rfl; done)); try simp only [Act.put, List.setIfInBounds_toArray, List.set_cons_zero, List.set_cons_succ])
  have x5 : w8.cell? ⟨b, 5, none⟩ = some (.bool c.some) := Lib.cell_of_heap HB8.out 5
  have f5 : w8.frozen? ⟨b, 5, none⟩ = false := Lib.frozen_of_heap HB8.out 5
  refine wpKind_serial (by rfl) rfl (fun n9 => ?_)
  go_wp2_with fail
  clear x5 f5
  show wpKind _ _ _ _ _ _ _ _ _
  refine wpKind_nil fun n10 => ?_
  go_wp2_with fail
  go_ret
  exact ⟨rfl, ⟨hB, .slice Aw nw cw, heap_setCell_same _ b 5 _ _ (.bool true) HB8.out, ((HO8.out.drewN n9).set hne6).drewN n10⟩, below_drewN ((below_drewN HBB8.out n9).setCell (p := ⟨b, 5, none⟩) hB _) n10⟩
end Go.Proofs.YtlclkeihkkpdbaaGreatDoor
