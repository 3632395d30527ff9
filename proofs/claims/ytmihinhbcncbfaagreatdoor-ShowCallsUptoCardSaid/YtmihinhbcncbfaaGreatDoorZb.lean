/- The walks of timetableref06.times, Path, Door, Trip and Hazard. Printed by wip/bin/genzb.py. -/
import Derived.Test.YtmihinhbcncbfaaGreatDoorZa
import Derived.Test.YtmihinhbcncbfaaGreatDoorZp
import Derived.Test.YtmihinhbcncbfaaGreatDoorMh
namespace Go.Proofs.YtmihinhbcncbfaaGreatDoor
open Go.RowKit
/-- The names of a thing are no longer than this. -/
def Lo (s : List UInt8) : Prop := s.length ≤ 1048576

set_option maxHeartbeats 4000000 in
set_option maxRecDepth 100000 in
theorem ztimes_any (w : World) (t : TimesD) (k : List UInt8) (hf : t.Fit) (hk : k.length ≤ 24) : Calls Tryz.prog 48 #[.agg #[.int .i64 t.start, .int .i64 t.every, .int .i64 t.len], .string (ba k)] w fun e w' => e = .returned (.string (ba (32 :: timesL t k))) ∧ Below w.heap.size w w' := by
  have HS := Lib.hid (times_sum t k)
  have b0 : (ba (dec t.start)).size ≤ 24 := by rw [ba_size]; exact dec_len24 hf.1
  have b1 : (ba (dec t.every)).size ≤ 24 := by rw [ba_size]; exact dec_len24 hf.2.1
  have b2 : (ba k).size ≤ 24 := by rw [ba_size]; exact hk
  have b3 : (ba (dec t.len)).size ≤ 24 := by rw [ba_size]; exact dec_len24 hf.2.2
  have z1 : ((⟨#[32, 102, 114, 111, 109, 32]⟩ : ByteArray) ++ ba (dec t.start) : ByteArray).size ≤ 30 := by rw [ByteArray.size_append]; exact Nat.add_le_add (Nat.le_of_eq rfl) b0
  have z2 : ((⟨#[32, 102, 114, 111, 109, 32]⟩ : ByteArray) ++ ba (dec t.start) ++ ⟨#[32, 101, 118, 101, 114, 121, 32]⟩ : ByteArray).size ≤ 37 := by rw [ByteArray.size_append]; exact Nat.add_le_add z1 (Nat.le_of_eq rfl)
  have z3 : ((⟨#[32, 102, 114, 111, 109, 32]⟩ : ByteArray) ++ ba (dec t.start) ++ ⟨#[32, 101, 118, 101, 114, 121, 32]⟩ ++ ba (dec t.every) : ByteArray).size ≤ 61 := by rw [ByteArray.size_append]; exact Nat.add_le_add z2 b1
  have z4 : ((⟨#[32, 102, 114, 111, 109, 32]⟩ : ByteArray) ++ ba (dec t.start) ++ ⟨#[32, 101, 118, 101, 114, 121, 32]⟩ ++ ba (dec t.every) ++ ⟨#[32]⟩ : ByteArray).size ≤ 62 := by rw [ByteArray.size_append]; exact Nat.add_le_add z3 (Nat.le_of_eq rfl)
  have z5 : ((⟨#[32, 102, 114, 111, 109, 32]⟩ : ByteArray) ++ ba (dec t.start) ++ ⟨#[32, 101, 118, 101, 114, 121, 32]⟩ ++ ba (dec t.every) ++ ⟨#[32]⟩ ++ ba k : ByteArray).size ≤ 86 := by rw [ByteArray.size_append]; exact Nat.add_le_add z4 b2
  have z6 : ((⟨#[32, 102, 114, 111, 109, 32]⟩ : ByteArray) ++ ba (dec t.start) ++ ⟨#[32, 101, 118, 101, 114, 121, 32]⟩ ++ ba (dec t.every) ++ ⟨#[32]⟩ ++ ba k ++ ⟨#[32]⟩ : ByteArray).size ≤ 87 := by rw [ByteArray.size_append]; exact Nat.add_le_add z5 (Nat.le_of_eq rfl)
  have z7 : ((⟨#[32, 102, 114, 111, 109, 32]⟩ : ByteArray) ++ ba (dec t.start) ++ ⟨#[32, 101, 118, 101, 114, 121, 32]⟩ ++ ba (dec t.every) ++ ⟨#[32]⟩ ++ ba k ++ ⟨#[32]⟩ ++ ba (dec t.len) : ByteArray).size ≤ 111 := by rw [ByteArray.size_append]; exact Nat.add_le_add z6 b3
  obtain ⟨hf0, hf1, hf2⟩ := hf
  go_enter Tryz.func48, Tryz.ntmps48
  go_upto_region 1 with fail
  obtain ⟨w1, hw1⟩ : ∃ w1, w.alloc (.cells #[.int .i64 t.start, .int .i64 t.every, .int .i64 t.len] 33) = w1 := ⟨_, rfl⟩
  have hq1 : w1.heap[w.heap.size]? = some (.cells #[.int .i64 t.start, .int .i64 t.every, .int .i64 t.len] 33 (0, 0)) := by rw [← hw1]; exact heap_alloc_new _ _
  have HB1 := Lib.hid (show Below w.heap.size w w1 by rw [← hw1]; exact (Below.refl _ _).alloc (Nat.le_refl _) _)
  have hlt : w.heap.size < w1.heap.size := by rw [← hw1]; simp
  rw [hw1]
  clear hw1
  have HC := Lib.hid (fun (wy : World) (hy : Below w1.heap.size w1 wy) => (show wy.cell? ⟨w.heap.size, 0, none⟩ = some (.int .i64 t.start) ∧ wy.cell? ⟨w.heap.size, 1, none⟩ = some (.int .i64 t.every) ∧ wy.cell? ⟨w.heap.size, 2, none⟩ = some (.int .i64 t.len) ∧ True ∧ True ∧ True ∧ True from ⟨(hy.cell (p := ⟨w.heap.size, 0, none⟩) hlt).trans (Lib.cell_of_heap hq1 0), (hy.cell (p := ⟨w.heap.size, 1, none⟩) hlt).trans (Lib.cell_of_heap hq1 1), (hy.cell (p := ⟨w.heap.size, 2, none⟩) hlt).trans (Lib.cell_of_heap hq1 2), trivial, trivial, trivial, trivial⟩))
  clear hq1 hlt
  have hSw : Below w1.heap.size w1 w1 := Below.refl _ _
  refine wp_region_kinds (fun wy => Below w1.heap.size w1 wy) [2, 7, 15] [] [1, 6, 14] [0, 3, 4, 5, 8, 9, 10, 11, 12, 13, 16, 17] [0, 1, 5, 6, 10, 13, 14, 2, 3, 4, 7, 8, 9, 11, 12, 15, 16, 17] (by kernel_rfl) (by kernel_rfl) (fun w n h => below_drewN h n) ?_
  repeat (first | (refine wpKind_free (v := ?_) (by rfl) rfl (by rfl) ?_ ?_; rotate_left 1; (focus (intro wy; go_simp; rw [if_neg (by omega)]; done)); try simp only [Act.put, List.setIfInBounds_toArray, List.set_cons_zero, List.set_cons_succ]) | (refine wpKind_free (v := ?_) (by rfl) rfl (by rfl) ?_ ?_; rotate_left 1; (focus (intro wy; go_simp; try with_reducible rfl; done)); try simp only [Act.put, List.setIfInBounds_toArray, List.set_cons_zero, List.set_cons_succ]) | (refine wpKind_held (v := ?_) (by rfl) rfl (by rfl) hSw ?_ ?_; rotate_left 1; (focus (intro wy hSy; obtain ⟨s0, s1, s2, s3, s4, s5, s6⟩ := HC.out wy hSy; go_simp; try with_reducible rfl; done)); try simp only [Act.put, List.setIfInBounds_toArray, List.set_cons_zero, List.set_cons_succ]))
  refine wpKind_keeps (by rfl) rfl (fun n1 => ?_)
  go_wp2_with fail
  refine (znum_any t.start hf0.1 hf0.2 (w1.drewN n1)).mono ?_
  rintro e w2 ⟨rfl, hb⟩
  have hSw2 : Below w1.heap.size w1 w2 := (below_drewN hSw n1).trans (hb.mono (by exact hSw.size))
  clear hb hSw
  go_wp2_with fail
  show _ ∧ _
  refine ⟨hSw2, ?_⟩
  have hSw := hSw2
  clear hSw2
  repeat (first | (refine wpKind_free (v := ?_) (by rfl) rfl (by rfl) ?_ ?_; rotate_left 1; (focus (intro wy; go_simp; rw [if_neg (by omega)]; done)); try simp only [Act.put, List.setIfInBounds_toArray, List.set_cons_zero, List.set_cons_succ]) | (refine wpKind_free (v := ?_) (by rfl) rfl (by rfl) ?_ ?_; rotate_left 1; (focus (intro wy; go_simp; try with_reducible rfl; done)); try simp only [Act.put, List.setIfInBounds_toArray, List.set_cons_zero, List.set_cons_succ]) | (refine wpKind_held (v := ?_) (by rfl) rfl (by rfl) hSw ?_ ?_; rotate_left 1; (focus (intro wy hSy; obtain ⟨s0, s1, s2, s3, s4, s5, s6⟩ := HC.out wy hSy; go_simp; try with_reducible rfl; done)); try simp only [Act.put, List.setIfInBounds_toArray, List.set_cons_zero, List.set_cons_succ]))
  refine wpKind_keeps (by rfl) rfl (fun n2 => ?_)
  go_wp2_with fail
  refine (znum_any t.every hf1.1 hf1.2 (w2.drewN n2)).mono ?_
  rintro e w3 ⟨rfl, hb⟩
  have hSw2 : Below w1.heap.size w1 w3 := (below_drewN hSw n2).trans (hb.mono (by exact hSw.size))
  clear hb hSw
  go_wp2_with fail
  show _ ∧ _
  refine ⟨hSw2, ?_⟩
  have hSw := hSw2
  clear hSw2
  repeat (first | (refine wpKind_free (v := ?_) (by rfl) rfl (by rfl) ?_ ?_; rotate_left 1; (focus (intro wy; go_simp; rw [if_neg (by omega)]; done)); try simp only [Act.put, List.setIfInBounds_toArray, List.set_cons_zero, List.set_cons_succ]) | (refine wpKind_free (v := ?_) (by rfl) rfl (by rfl) ?_ ?_; rotate_left 1; (focus (intro wy; go_simp; try with_reducible rfl; done)); try simp only [Act.put, List.setIfInBounds_toArray, List.set_cons_zero, List.set_cons_succ]) | (refine wpKind_held (v := ?_) (by rfl) rfl (by rfl) hSw ?_ ?_; rotate_left 1; (focus (intro wy hSy; obtain ⟨s0, s1, s2, s3, s4, s5, s6⟩ := HC.out wy hSy; go_simp; try with_reducible rfl; done)); try simp only [Act.put, List.setIfInBounds_toArray, List.set_cons_zero, List.set_cons_succ]))
  refine wpKind_keeps (by rfl) rfl (fun n3 => ?_)
  go_wp2_with fail
  refine (znum_any t.len hf2.1 hf2.2 (w3.drewN n3)).mono ?_
  rintro e w4 ⟨rfl, hb⟩
  have hSw2 : Below w1.heap.size w1 w4 := (below_drewN hSw n3).trans (hb.mono (by exact hSw.size))
  clear hb hSw
  go_wp2_with fail
  show _ ∧ _
  refine ⟨hSw2, ?_⟩
  have hSw := hSw2
  clear hSw2
  repeat (first | (refine wpKind_free (v := ?_) (by rfl) rfl (by rfl) ?_ ?_; rotate_left 1; (focus (intro wy; go_simp; rw [if_neg (by omega)]; done)); try simp only [Act.put, List.setIfInBounds_toArray, List.set_cons_zero, List.set_cons_succ]) | (refine wpKind_free (v := ?_) (by rfl) rfl (by rfl) ?_ ?_; rotate_left 1; (focus (intro wy; go_simp; try with_reducible rfl; done)); try simp only [Act.put, List.setIfInBounds_toArray, List.set_cons_zero, List.set_cons_succ]) | (refine wpKind_held (v := ?_) (by rfl) rfl (by rfl) hSw ?_ ?_; rotate_left 1; (focus (intro wy hSy; obtain ⟨s0, s1, s2, s3, s4, s5, s6⟩ := HC.out wy hSy; go_simp; try with_reducible rfl; done)); try simp only [Act.put, List.setIfInBounds_toArray, List.set_cons_zero, List.set_cons_succ]))
  refine wpKind_nil fun n9 => ?_
  go_wp2_with fail
  go_ret
  exact ⟨by rw [← HS.out]; rfl, HB1.out.trans ((below_drewN hSw n9).mono HB1.out.size)⟩
set_option maxHeartbeats 4000000 in
set_option maxRecDepth 100000 in
theorem zpath_any (w : World) (p : PathD) (h1 : Lo p.name) (h2 : Lo p.a) (h3 : Lo p.b) (h4 : I64 p.len) : Calls Tryz.prog 16 #[.agg #[.string (ba p.name), .string (ba p.a), .string (ba p.b), .int .i64 p.len]] w fun e w' => e = .returned (.string (ba (pathL p))) ∧ Below w.heap.size w w' := by
  have HS := Lib.hid (path_sum p)
  have b0 : (ba p.name).size ≤ 1048576 := by rw [ba_size]; exact h1
  have b1 : (ba p.a).size ≤ 1048576 := by rw [ba_size]; exact h2
  have b2 : (ba p.b).size ≤ 1048576 := by rw [ba_size]; exact h3
  have b3 : (ba (dec p.len)).size ≤ 24 := by rw [ba_size]; exact dec_len24 h4
  have z1 : ((⟨#[112, 97, 116, 104, 32]⟩ : ByteArray) ++ ba p.name : ByteArray).size ≤ 1048581 := by rw [ByteArray.size_append]; exact Nat.add_le_add (Nat.le_of_eq rfl) b0
  have z2 : ((⟨#[112, 97, 116, 104, 32]⟩ : ByteArray) ++ ba p.name ++ ⟨#[32]⟩ : ByteArray).size ≤ 1048582 := by rw [ByteArray.size_append]; exact Nat.add_le_add z1 (Nat.le_of_eq rfl)
  have z3 : ((⟨#[112, 97, 116, 104, 32]⟩ : ByteArray) ++ ba p.name ++ ⟨#[32]⟩ ++ ba p.a : ByteArray).size ≤ 2097158 := by rw [ByteArray.size_append]; exact Nat.add_le_add z2 b1
  have z4 : ((⟨#[112, 97, 116, 104, 32]⟩ : ByteArray) ++ ba p.name ++ ⟨#[32]⟩ ++ ba p.a ++ ⟨#[32]⟩ : ByteArray).size ≤ 2097159 := by rw [ByteArray.size_append]; exact Nat.add_le_add z3 (Nat.le_of_eq rfl)
  have z5 : ((⟨#[112, 97, 116, 104, 32]⟩ : ByteArray) ++ ba p.name ++ ⟨#[32]⟩ ++ ba p.a ++ ⟨#[32]⟩ ++ ba p.b : ByteArray).size ≤ 3145735 := by rw [ByteArray.size_append]; exact Nat.add_le_add z4 b2
  have z6 : ((⟨#[112, 97, 116, 104, 32]⟩ : ByteArray) ++ ba p.name ++ ⟨#[32]⟩ ++ ba p.a ++ ⟨#[32]⟩ ++ ba p.b ++ ⟨#[32]⟩ : ByteArray).size ≤ 3145736 := by rw [ByteArray.size_append]; exact Nat.add_le_add z5 (Nat.le_of_eq rfl)
  have z7 : ((⟨#[112, 97, 116, 104, 32]⟩ : ByteArray) ++ ba p.name ++ ⟨#[32]⟩ ++ ba p.a ++ ⟨#[32]⟩ ++ ba p.b ++ ⟨#[32]⟩ ++ ba (dec p.len) : ByteArray).size ≤ 3145760 := by rw [ByteArray.size_append]; exact Nat.add_le_add z6 b3
  go_enter Tryz.func16, Tryz.ntmps16
  go_upto_region 1 with fail
  obtain ⟨w1, hw1⟩ : ∃ w1, w.alloc (.cells #[.string (ba p.name), .string (ba p.a), .string (ba p.b), .int .i64 p.len] 31) = w1 := ⟨_, rfl⟩
  have hq1 : w1.heap[w.heap.size]? = some (.cells #[.string (ba p.name), .string (ba p.a), .string (ba p.b), .int .i64 p.len] 31 (0, 0)) := by rw [← hw1]; exact heap_alloc_new _ _
  have HB1 := Lib.hid (show Below w.heap.size w w1 by rw [← hw1]; exact (Below.refl _ _).alloc (Nat.le_refl _) _)
  have hlt : w.heap.size < w1.heap.size := by rw [← hw1]; simp
  rw [hw1]
  clear hw1
  have HC := Lib.hid (fun (wy : World) (hy : Below w1.heap.size w1 wy) => (show wy.cell? ⟨w.heap.size, 0, none⟩ = some (.string (ba p.name)) ∧ wy.cell? ⟨w.heap.size, 1, none⟩ = some (.string (ba p.a)) ∧ wy.cell? ⟨w.heap.size, 2, none⟩ = some (.string (ba p.b)) ∧ wy.cell? ⟨w.heap.size, 3, none⟩ = some (.int .i64 p.len) ∧ True ∧ True ∧ True from ⟨(hy.cell (p := ⟨w.heap.size, 0, none⟩) hlt).trans (Lib.cell_of_heap hq1 0), (hy.cell (p := ⟨w.heap.size, 1, none⟩) hlt).trans (Lib.cell_of_heap hq1 1), (hy.cell (p := ⟨w.heap.size, 2, none⟩) hlt).trans (Lib.cell_of_heap hq1 2), (hy.cell (p := ⟨w.heap.size, 3, none⟩) hlt).trans (Lib.cell_of_heap hq1 3), trivial, trivial, trivial⟩))
  clear hq1 hlt
  have hSw : Below w1.heap.size w1 w1 := Below.refl _ _
  refine wp_region_kinds (fun wy => Below w1.heap.size w1 wy) [14] [] [1, 5, 9, 13] [0, 2, 3, 4, 6, 7, 8, 10, 11, 12, 15, 16] [0, 1, 2, 3, 4, 5, 6, 7, 8, 9, 10, 11, 12, 13, 14, 15, 16] (by kernel_rfl) (by kernel_rfl) (fun w n h => below_drewN h n) ?_
  repeat (first | (refine wpKind_free (v := ?_) (by rfl) rfl (by rfl) ?_ ?_; rotate_left 1; (focus (intro wy; go_simp; rw [if_neg (by omega)]; done)); try simp only [Act.put, List.setIfInBounds_toArray, List.set_cons_zero, List.set_cons_succ]) | (refine wpKind_free (v := ?_) (by rfl) rfl (by rfl) ?_ ?_; rotate_left 1; (focus (intro wy; go_simp; try with_reducible rfl; done)); try simp only [Act.put, List.setIfInBounds_toArray, List.set_cons_zero, List.set_cons_succ]) | (refine wpKind_held (v := ?_) (by rfl) rfl (by rfl) hSw ?_ ?_; rotate_left 1; (focus (intro wy hSy; obtain ⟨s0, s1, s2, s3, s4, s5, s6⟩ := HC.out wy hSy; go_simp; try with_reducible rfl; done)); try simp only [Act.put, List.setIfInBounds_toArray, List.set_cons_zero, List.set_cons_succ]))
  refine wpKind_keeps (by rfl) rfl (fun n1 => ?_)
  go_wp2_with fail
  refine (znum_any p.len h4.1 h4.2 (w1.drewN n1)).mono ?_
  rintro e w2 ⟨rfl, hb⟩
  have hSw2 : Below w1.heap.size w1 w2 := (below_drewN hSw n1).trans (hb.mono (by exact hSw.size))
  clear hb hSw
  go_wp2_with fail
  show _ ∧ _
  refine ⟨hSw2, ?_⟩
  have hSw := hSw2
  clear hSw2
  repeat (first | (refine wpKind_free (v := ?_) (by rfl) rfl (by rfl) ?_ ?_; rotate_left 1; (focus (intro wy; go_simp; rw [if_neg (by omega)]; done)); try simp only [Act.put, List.setIfInBounds_toArray, List.set_cons_zero, List.set_cons_succ]) | (refine wpKind_free (v := ?_) (by rfl) rfl (by rfl) ?_ ?_; rotate_left 1; (focus (intro wy; go_simp; try with_reducible rfl; done)); try simp only [Act.put, List.setIfInBounds_toArray, List.set_cons_zero, List.set_cons_succ]) | (refine wpKind_held (v := ?_) (by rfl) rfl (by rfl) hSw ?_ ?_; rotate_left 1; (focus (intro wy hSy; obtain ⟨s0, s1, s2, s3, s4, s5, s6⟩ := HC.out wy hSy; go_simp; try with_reducible rfl; done)); try simp only [Act.put, List.setIfInBounds_toArray, List.set_cons_zero, List.set_cons_succ]))
  refine wpKind_nil fun n9 => ?_
  go_wp2_with fail
  go_ret
  exact ⟨by rw [← HS.out]; rfl, HB1.out.trans ((below_drewN hSw n9).mono HB1.out.size)⟩
set_option maxHeartbeats 4000000 in
set_option maxRecDepth 100000 in
theorem zdoor_any (w : World) (p : DoorD) (h1 : Lo p.name) (h2 : Lo p.a) (h3 : Lo p.b) (h4 : I64 p.len) (h5 : p.times.Fit) : Calls Tryz.prog 18 #[.agg #[.string (ba p.name), .string (ba p.a), .string (ba p.b), .int .i64 p.len, .int .i64 p.times.start, .int .i64 p.times.every, .int .i64 p.times.len]] w fun e w' => e = .returned (.string (ba (doorL p))) ∧ Below w.heap.size w w' := by
  have HS := Lib.hid (door_sum p)
  have b0 : (ba p.name).size ≤ 1048576 := by rw [ba_size]; exact h1
  have b1 : (ba p.a).size ≤ 1048576 := by rw [ba_size]; exact h2
  have b2 : (ba p.b).size ≤ 1048576 := by rw [ba_size]; exact h3
  have b3 : (ba (dec p.len)).size ≤ 24 := by rw [ba_size]; exact dec_len24 h4
  have b4 : (ba (32 :: timesL p.times kOpen)).size ≤ 151 := by rw [ba_size, List.length_cons]; exact Nat.succ_le_succ (timesL_le h5 (by decide))
  have z1 : ((⟨#[100, 111, 111, 114, 32]⟩ : ByteArray) ++ ba p.name : ByteArray).size ≤ 1048581 := by rw [ByteArray.size_append]; exact Nat.add_le_add (Nat.le_of_eq rfl) b0
  have z2 : ((⟨#[100, 111, 111, 114, 32]⟩ : ByteArray) ++ ba p.name ++ ⟨#[32]⟩ : ByteArray).size ≤ 1048582 := by rw [ByteArray.size_append]; exact Nat.add_le_add z1 (Nat.le_of_eq rfl)
  have z3 : ((⟨#[100, 111, 111, 114, 32]⟩ : ByteArray) ++ ba p.name ++ ⟨#[32]⟩ ++ ba p.a : ByteArray).size ≤ 2097158 := by rw [ByteArray.size_append]; exact Nat.add_le_add z2 b1
  have z4 : ((⟨#[100, 111, 111, 114, 32]⟩ : ByteArray) ++ ba p.name ++ ⟨#[32]⟩ ++ ba p.a ++ ⟨#[32]⟩ : ByteArray).size ≤ 2097159 := by rw [ByteArray.size_append]; exact Nat.add_le_add z3 (Nat.le_of_eq rfl)
  have z5 : ((⟨#[100, 111, 111, 114, 32]⟩ : ByteArray) ++ ba p.name ++ ⟨#[32]⟩ ++ ba p.a ++ ⟨#[32]⟩ ++ ba p.b : ByteArray).size ≤ 3145735 := by rw [ByteArray.size_append]; exact Nat.add_le_add z4 b2
  have z6 : ((⟨#[100, 111, 111, 114, 32]⟩ : ByteArray) ++ ba p.name ++ ⟨#[32]⟩ ++ ba p.a ++ ⟨#[32]⟩ ++ ba p.b ++ ⟨#[32]⟩ : ByteArray).size ≤ 3145736 := by rw [ByteArray.size_append]; exact Nat.add_le_add z5 (Nat.le_of_eq rfl)
  have z7 : ((⟨#[100, 111, 111, 114, 32]⟩ : ByteArray) ++ ba p.name ++ ⟨#[32]⟩ ++ ba p.a ++ ⟨#[32]⟩ ++ ba p.b ++ ⟨#[32]⟩ ++ ba (dec p.len) : ByteArray).size ≤ 3145760 := by rw [ByteArray.size_append]; exact Nat.add_le_add z6 b3
  have z8 : ((⟨#[100, 111, 111, 114, 32]⟩ : ByteArray) ++ ba p.name ++ ⟨#[32]⟩ ++ ba p.a ++ ⟨#[32]⟩ ++ ba p.b ++ ⟨#[32]⟩ ++ ba (dec p.len) ++ ba (32 :: timesL p.times kOpen) : ByteArray).size ≤ 3145911 := by rw [ByteArray.size_append]; exact Nat.add_le_add z7 b4
  go_enter Tryz.func18, Tryz.ntmps18
  go_upto_region 1 with fail
  obtain ⟨w1, hw1⟩ : ∃ w1, w.alloc (.cells #[.string (ba p.name), .string (ba p.a), .string (ba p.b), .int .i64 p.len, .int .i64 p.times.start, .int .i64 p.times.every, .int .i64 p.times.len] 35) = w1 := ⟨_, rfl⟩
  have hq1 : w1.heap[w.heap.size]? = some (.cells #[.string (ba p.name), .string (ba p.a), .string (ba p.b), .int .i64 p.len, .int .i64 p.times.start, .int .i64 p.times.every, .int .i64 p.times.len] 35 (0, 0)) := by rw [← hw1]; exact heap_alloc_new _ _
  have HB1 := Lib.hid (show Below w.heap.size w w1 by rw [← hw1]; exact (Below.refl _ _).alloc (Nat.le_refl _) _)
  have hlt : w.heap.size < w1.heap.size := by rw [← hw1]; simp
  rw [hw1]
  clear hw1
  have HC := Lib.hid (fun (wy : World) (hy : Below w1.heap.size w1 wy) => (show wy.cell? ⟨w.heap.size, 0, none⟩ = some (.string (ba p.name)) ∧ wy.cell? ⟨w.heap.size, 1, none⟩ = some (.string (ba p.a)) ∧ wy.cell? ⟨w.heap.size, 2, none⟩ = some (.string (ba p.b)) ∧ wy.cell? ⟨w.heap.size, 3, none⟩ = some (.int .i64 p.len) ∧ wy.cell? ⟨w.heap.size, 4, none⟩ = some (.int .i64 p.times.start) ∧ wy.cell? ⟨w.heap.size, 5, none⟩ = some (.int .i64 p.times.every) ∧ wy.cell? ⟨w.heap.size, 6, none⟩ = some (.int .i64 p.times.len) from ⟨(hy.cell (p := ⟨w.heap.size, 0, none⟩) hlt).trans (Lib.cell_of_heap hq1 0), (hy.cell (p := ⟨w.heap.size, 1, none⟩) hlt).trans (Lib.cell_of_heap hq1 1), (hy.cell (p := ⟨w.heap.size, 2, none⟩) hlt).trans (Lib.cell_of_heap hq1 2), (hy.cell (p := ⟨w.heap.size, 3, none⟩) hlt).trans (Lib.cell_of_heap hq1 3), (hy.cell (p := ⟨w.heap.size, 4, none⟩) hlt).trans (Lib.cell_of_heap hq1 4), (hy.cell (p := ⟨w.heap.size, 5, none⟩) hlt).trans (Lib.cell_of_heap hq1 5), (hy.cell (p := ⟨w.heap.size, 6, none⟩) hlt).trans (Lib.cell_of_heap hq1 6)⟩))
  clear hq1 hlt
  have hSw : Below w1.heap.size w1 w1 := Below.refl _ _
  refine wp_region_kinds (fun wy => Below w1.heap.size w1 wy) [14, 18] [] [1, 5, 9, 13, 17] [0, 2, 3, 4, 6, 7, 8, 10, 11, 12, 15, 16, 19, 20] [0, 1, 2, 3, 4, 5, 6, 7, 8, 9, 10, 11, 12, 13, 16, 17, 14, 15, 18, 19, 20] (by kernel_rfl) (by kernel_rfl) (fun w n h => below_drewN h n) ?_
  repeat (first | (refine wpKind_free (v := ?_) (by rfl) rfl (by rfl) ?_ ?_; rotate_left 1; (focus (intro wy; go_simp; rw [if_neg (by omega)]; done)); try simp only [Act.put, List.setIfInBounds_toArray, List.set_cons_zero, List.set_cons_succ]) | (refine wpKind_free (v := ?_) (by rfl) rfl (by rfl) ?_ ?_; rotate_left 1; (focus (intro wy; go_simp; try with_reducible rfl; done)); try simp only [Act.put, List.setIfInBounds_toArray, List.set_cons_zero, List.set_cons_succ]) | (refine wpKind_held (v := ?_) (by rfl) rfl (by rfl) hSw ?_ ?_; rotate_left 1; (focus (intro wy hSy; obtain ⟨s0, s1, s2, s3, s4, s5, s6⟩ := HC.out wy hSy; go_simp; try with_reducible rfl; done)); try simp only [Act.put, List.setIfInBounds_toArray, List.set_cons_zero, List.set_cons_succ]))
  refine wpKind_keeps (by rfl) rfl (fun n1 => ?_)
  go_wp2_with fail
  refine (znum_any p.len h4.1 h4.2 (w1.drewN n1)).mono ?_
  rintro e w2 ⟨rfl, hb⟩
  have hSw2 : Below w1.heap.size w1 w2 := (below_drewN hSw n1).trans (hb.mono (by exact hSw.size))
  clear hb hSw
  go_wp2_with fail
  show _ ∧ _
  refine ⟨hSw2, ?_⟩
  have hSw := hSw2
  clear hSw2
  repeat (first | (refine wpKind_free (v := ?_) (by rfl) rfl (by rfl) ?_ ?_; rotate_left 1; (focus (intro wy; go_simp; rw [if_neg (by omega)]; done)); try simp only [Act.put, List.setIfInBounds_toArray, List.set_cons_zero, List.set_cons_succ]) | (refine wpKind_free (v := ?_) (by rfl) rfl (by rfl) ?_ ?_; rotate_left 1; (focus (intro wy; go_simp; try with_reducible rfl; done)); try simp only [Act.put, List.setIfInBounds_toArray, List.set_cons_zero, List.set_cons_succ]) | (refine wpKind_held (v := ?_) (by rfl) rfl (by rfl) hSw ?_ ?_; rotate_left 1; (focus (intro wy hSy; obtain ⟨s0, s1, s2, s3, s4, s5, s6⟩ := HC.out wy hSy; go_simp; try with_reducible rfl; done)); try simp only [Act.put, List.setIfInBounds_toArray, List.set_cons_zero, List.set_cons_succ]))
  refine wpKind_keeps (by rfl) rfl (fun n2 => ?_)
  go_wp2_with fail
  refine (ztimes_any (w2.drewN n2) p.times kOpen h5 (by decide)).mono ?_
  rintro e w3 ⟨rfl, hb⟩
  have hSw2 : Below w1.heap.size w1 w3 := (below_drewN hSw n2).trans (hb.mono (by exact hSw.size))
  clear hb hSw
  go_wp2_with fail
  show _ ∧ _
  refine ⟨hSw2, ?_⟩
  have hSw := hSw2
  clear hSw2
  repeat (first | (refine wpKind_free (v := ?_) (by rfl) rfl (by rfl) ?_ ?_; rotate_left 1; (focus (intro wy; go_simp; rw [if_neg (by omega)]; done)); try simp only [Act.put, List.setIfInBounds_toArray, List.set_cons_zero, List.set_cons_succ]) | (refine wpKind_free (v := ?_) (by rfl) rfl (by rfl) ?_ ?_; rotate_left 1; (focus (intro wy; go_simp; try with_reducible rfl; done)); try simp only [Act.put, List.setIfInBounds_toArray, List.set_cons_zero, List.set_cons_succ]) | (refine wpKind_held (v := ?_) (by rfl) rfl (by rfl) hSw ?_ ?_; rotate_left 1; (focus (intro wy hSy; obtain ⟨s0, s1, s2, s3, s4, s5, s6⟩ := HC.out wy hSy; go_simp; try with_reducible rfl; done)); try simp only [Act.put, List.setIfInBounds_toArray, List.set_cons_zero, List.set_cons_succ]))
  refine wpKind_nil fun n9 => ?_
  go_wp2_with fail
  go_ret
  exact ⟨by rw [← HS.out]; rfl, HB1.out.trans ((below_drewN hSw n9).mono HB1.out.size)⟩
set_option maxHeartbeats 4000000 in
set_option maxRecDepth 100000 in
theorem ztrip_any (w : World) (p : TripD) (h1 : Lo p.name) (h2 : Lo p.route) (h3 : I64 p.start) (h4 : I64 p.every) (h5 : I64 p.stop) : Calls Tryz.prog 22 #[.agg #[.string (ba p.name), .string (ba p.route), .int .i64 p.start, .int .i64 p.every, .int .i64 p.stop]] w fun e w' => e = .returned (.string (ba (tripL p))) ∧ Below w.heap.size w w' := by
  have HS := Lib.hid (trip_sum p)
  have b0 : (ba p.name).size ≤ 1048576 := by rw [ba_size]; exact h1
  have b1 : (ba p.route).size ≤ 1048576 := by rw [ba_size]; exact h2
  have b2 : (ba (dec p.start)).size ≤ 24 := by rw [ba_size]; exact dec_len24 h3
  have b3 : (ba (dec p.every)).size ≤ 24 := by rw [ba_size]; exact dec_len24 h4
  have b4 : (ba (dec p.stop)).size ≤ 24 := by rw [ba_size]; exact dec_len24 h5
  have z1 : ((⟨#[116, 114, 105, 112, 32]⟩ : ByteArray) ++ ba p.name : ByteArray).size ≤ 1048581 := by rw [ByteArray.size_append]; exact Nat.add_le_add (Nat.le_of_eq rfl) b0
  have z2 : ((⟨#[116, 114, 105, 112, 32]⟩ : ByteArray) ++ ba p.name ++ ⟨#[32, 111, 102, 32]⟩ : ByteArray).size ≤ 1048585 := by rw [ByteArray.size_append]; exact Nat.add_le_add z1 (Nat.le_of_eq rfl)
  have z3 : ((⟨#[116, 114, 105, 112, 32]⟩ : ByteArray) ++ ba p.name ++ ⟨#[32, 111, 102, 32]⟩ ++ ba p.route : ByteArray).size ≤ 2097161 := by rw [ByteArray.size_append]; exact Nat.add_le_add z2 b1
  have z4 : ((⟨#[116, 114, 105, 112, 32]⟩ : ByteArray) ++ ba p.name ++ ⟨#[32, 111, 102, 32]⟩ ++ ba p.route ++ ⟨#[32, 102, 114, 111, 109, 32]⟩ : ByteArray).size ≤ 2097167 := by rw [ByteArray.size_append]; exact Nat.add_le_add z3 (Nat.le_of_eq rfl)
  have z5 : ((⟨#[116, 114, 105, 112, 32]⟩ : ByteArray) ++ ba p.name ++ ⟨#[32, 111, 102, 32]⟩ ++ ba p.route ++ ⟨#[32, 102, 114, 111, 109, 32]⟩ ++ ba (dec p.start) : ByteArray).size ≤ 2097191 := by rw [ByteArray.size_append]; exact Nat.add_le_add z4 b2
  have z6 : ((⟨#[116, 114, 105, 112, 32]⟩ : ByteArray) ++ ba p.name ++ ⟨#[32, 111, 102, 32]⟩ ++ ba p.route ++ ⟨#[32, 102, 114, 111, 109, 32]⟩ ++ ba (dec p.start) ++ ⟨#[32, 101, 118, 101, 114, 121, 32]⟩ : ByteArray).size ≤ 2097198 := by rw [ByteArray.size_append]; exact Nat.add_le_add z5 (Nat.le_of_eq rfl)
  have z7 : ((⟨#[116, 114, 105, 112, 32]⟩ : ByteArray) ++ ba p.name ++ ⟨#[32, 111, 102, 32]⟩ ++ ba p.route ++ ⟨#[32, 102, 114, 111, 109, 32]⟩ ++ ba (dec p.start) ++ ⟨#[32, 101, 118, 101, 114, 121, 32]⟩ ++ ba (dec p.every) : ByteArray).size ≤ 2097222 := by rw [ByteArray.size_append]; exact Nat.add_le_add z6 b3
  have z8 : ((⟨#[116, 114, 105, 112, 32]⟩ : ByteArray) ++ ba p.name ++ ⟨#[32, 111, 102, 32]⟩ ++ ba p.route ++ ⟨#[32, 102, 114, 111, 109, 32]⟩ ++ ba (dec p.start) ++ ⟨#[32, 101, 118, 101, 114, 121, 32]⟩ ++ ba (dec p.every) ++ ⟨#[32, 117, 110, 116, 105, 108, 32]⟩ : ByteArray).size ≤ 2097229 := by rw [ByteArray.size_append]; exact Nat.add_le_add z7 (Nat.le_of_eq rfl)
  have z9 : ((⟨#[116, 114, 105, 112, 32]⟩ : ByteArray) ++ ba p.name ++ ⟨#[32, 111, 102, 32]⟩ ++ ba p.route ++ ⟨#[32, 102, 114, 111, 109, 32]⟩ ++ ba (dec p.start) ++ ⟨#[32, 101, 118, 101, 114, 121, 32]⟩ ++ ba (dec p.every) ++ ⟨#[32, 117, 110, 116, 105, 108, 32]⟩ ++ ba (dec p.stop) : ByteArray).size ≤ 2097253 := by rw [ByteArray.size_append]; exact Nat.add_le_add z8 b4
  go_enter Tryz.func22, Tryz.ntmps22
  go_upto_region 1 with fail
  obtain ⟨w1, hw1⟩ : ∃ w1, w.alloc (.cells #[.string (ba p.name), .string (ba p.route), .int .i64 p.start, .int .i64 p.every, .int .i64 p.stop] 40) = w1 := ⟨_, rfl⟩
  have hq1 : w1.heap[w.heap.size]? = some (.cells #[.string (ba p.name), .string (ba p.route), .int .i64 p.start, .int .i64 p.every, .int .i64 p.stop] 40 (0, 0)) := by rw [← hw1]; exact heap_alloc_new _ _
  have HB1 := Lib.hid (show Below w.heap.size w w1 by rw [← hw1]; exact (Below.refl _ _).alloc (Nat.le_refl _) _)
  have hlt : w.heap.size < w1.heap.size := by rw [← hw1]; simp
  rw [hw1]
  clear hw1
  have HC := Lib.hid (fun (wy : World) (hy : Below w1.heap.size w1 wy) => (show wy.cell? ⟨w.heap.size, 0, none⟩ = some (.string (ba p.name)) ∧ wy.cell? ⟨w.heap.size, 1, none⟩ = some (.string (ba p.route)) ∧ wy.cell? ⟨w.heap.size, 2, none⟩ = some (.int .i64 p.start) ∧ wy.cell? ⟨w.heap.size, 3, none⟩ = some (.int .i64 p.every) ∧ wy.cell? ⟨w.heap.size, 4, none⟩ = some (.int .i64 p.stop) ∧ True ∧ True from ⟨(hy.cell (p := ⟨w.heap.size, 0, none⟩) hlt).trans (Lib.cell_of_heap hq1 0), (hy.cell (p := ⟨w.heap.size, 1, none⟩) hlt).trans (Lib.cell_of_heap hq1 1), (hy.cell (p := ⟨w.heap.size, 2, none⟩) hlt).trans (Lib.cell_of_heap hq1 2), (hy.cell (p := ⟨w.heap.size, 3, none⟩) hlt).trans (Lib.cell_of_heap hq1 3), (hy.cell (p := ⟨w.heap.size, 4, none⟩) hlt).trans (Lib.cell_of_heap hq1 4), trivial, trivial⟩))
  clear hq1 hlt
  have hSw : Below w1.heap.size w1 w1 := Below.refl _ _
  refine wp_region_kinds (fun wy => Below w1.heap.size w1 wy) [10, 15, 20] [] [1, 5, 9, 14, 19] [0, 2, 3, 4, 6, 7, 8, 11, 12, 13, 16, 17, 18, 21, 22] [0, 1, 2, 3, 4, 5, 6, 7, 8, 9, 13, 14, 18, 19, 10, 11, 12, 15, 16, 17, 20, 21, 22] (by kernel_rfl) (by kernel_rfl) (fun w n h => below_drewN h n) ?_
  repeat (first | (refine wpKind_free (v := ?_) (by rfl) rfl (by rfl) ?_ ?_; rotate_left 1; (focus (intro wy; go_simp; rw [if_neg (by omega)]; done)); try simp only [Act.put, List.setIfInBounds_toArray, List.set_cons_zero, List.set_cons_succ]) | (refine wpKind_free (v := ?_) (by rfl) rfl (by rfl) ?_ ?_; rotate_left 1; (focus (intro wy; go_simp; try with_reducible rfl; done)); try simp only [Act.put, List.setIfInBounds_toArray, List.set_cons_zero, List.set_cons_succ]) | (refine wpKind_held (v := ?_) (by rfl) rfl (by rfl) hSw ?_ ?_; rotate_left 1; (focus (intro wy hSy; obtain ⟨s0, s1, s2, s3, s4, s5, s6⟩ := HC.out wy hSy; go_simp; try with_reducible rfl; done)); try simp only [Act.put, List.setIfInBounds_toArray, List.set_cons_zero, List.set_cons_succ]))
  refine wpKind_keeps (by rfl) rfl (fun n1 => ?_)
  go_wp2_with fail
  refine (znum_any p.start h3.1 h3.2 (w1.drewN n1)).mono ?_
  rintro e w2 ⟨rfl, hb⟩
  have hSw2 : Below w1.heap.size w1 w2 := (below_drewN hSw n1).trans (hb.mono (by exact hSw.size))
  clear hb hSw
  go_wp2_with fail
  show _ ∧ _
  refine ⟨hSw2, ?_⟩
  have hSw := hSw2
  clear hSw2
  repeat (first | (refine wpKind_free (v := ?_) (by rfl) rfl (by rfl) ?_ ?_; rotate_left 1; (focus (intro wy; go_simp; rw [if_neg (by omega)]; done)); try simp only [Act.put, List.setIfInBounds_toArray, List.set_cons_zero, List.set_cons_succ]) | (refine wpKind_free (v := ?_) (by rfl) rfl (by rfl) ?_ ?_; rotate_left 1; (focus (intro wy; go_simp; try with_reducible rfl; done)); try simp only [Act.put, List.setIfInBounds_toArray, List.set_cons_zero, List.set_cons_succ]) | (refine wpKind_held (v := ?_) (by rfl) rfl (by rfl) hSw ?_ ?_; rotate_left 1; (focus (intro wy hSy; obtain ⟨s0, s1, s2, s3, s4, s5, s6⟩ := HC.out wy hSy; go_simp; try with_reducible rfl; done)); try simp only [Act.put, List.setIfInBounds_toArray, List.set_cons_zero, List.set_cons_succ]))
  refine wpKind_keeps (by rfl) rfl (fun n2 => ?_)
  go_wp2_with fail
  refine (znum_any p.every h4.1 h4.2 (w2.drewN n2)).mono ?_
  rintro e w3 ⟨rfl, hb⟩
  have hSw2 : Below w1.heap.size w1 w3 := (below_drewN hSw n2).trans (hb.mono (by exact hSw.size))
  clear hb hSw
  go_wp2_with fail
  show _ ∧ _
  refine ⟨hSw2, ?_⟩
  have hSw := hSw2
  clear hSw2
  repeat (first | (refine wpKind_free (v := ?_) (by rfl) rfl (by rfl) ?_ ?_; rotate_left 1; (focus (intro wy; go_simp; rw [if_neg (by omega)]; done)); try simp only [Act.put, List.setIfInBounds_toArray, List.set_cons_zero, List.set_cons_succ]) | (refine wpKind_free (v := ?_) (by rfl) rfl (by rfl) ?_ ?_; rotate_left 1; (focus (intro wy; go_simp; try with_reducible rfl; done)); try simp only [Act.put, List.setIfInBounds_toArray, List.set_cons_zero, List.set_cons_succ]) | (refine wpKind_held (v := ?_) (by rfl) rfl (by rfl) hSw ?_ ?_; rotate_left 1; (focus (intro wy hSy; obtain ⟨s0, s1, s2, s3, s4, s5, s6⟩ := HC.out wy hSy; go_simp; try with_reducible rfl; done)); try simp only [Act.put, List.setIfInBounds_toArray, List.set_cons_zero, List.set_cons_succ]))
  refine wpKind_keeps (by rfl) rfl (fun n3 => ?_)
  go_wp2_with fail
  refine (znum_any p.stop h5.1 h5.2 (w3.drewN n3)).mono ?_
  rintro e w4 ⟨rfl, hb⟩
  have hSw2 : Below w1.heap.size w1 w4 := (below_drewN hSw n3).trans (hb.mono (by exact hSw.size))
  clear hb hSw
  go_wp2_with fail
  show _ ∧ _
  refine ⟨hSw2, ?_⟩
  have hSw := hSw2
  clear hSw2
  repeat (first | (refine wpKind_free (v := ?_) (by rfl) rfl (by rfl) ?_ ?_; rotate_left 1; (focus (intro wy; go_simp; rw [if_neg (by omega)]; done)); try simp only [Act.put, List.setIfInBounds_toArray, List.set_cons_zero, List.set_cons_succ]) | (refine wpKind_free (v := ?_) (by rfl) rfl (by rfl) ?_ ?_; rotate_left 1; (focus (intro wy; go_simp; try with_reducible rfl; done)); try simp only [Act.put, List.setIfInBounds_toArray, List.set_cons_zero, List.set_cons_succ]) | (refine wpKind_held (v := ?_) (by rfl) rfl (by rfl) hSw ?_ ?_; rotate_left 1; (focus (intro wy hSy; obtain ⟨s0, s1, s2, s3, s4, s5, s6⟩ := HC.out wy hSy; go_simp; try with_reducible rfl; done)); try simp only [Act.put, List.setIfInBounds_toArray, List.set_cons_zero, List.set_cons_succ]))
  refine wpKind_nil fun n9 => ?_
  go_wp2_with fail
  go_ret
  exact ⟨by rw [← HS.out]; rfl, HB1.out.trans ((below_drewN hSw n9).mono HB1.out.size)⟩
set_option maxHeartbeats 4000000 in
set_option maxRecDepth 100000 in
theorem zhaz_any (w : World) (p : HazD) (h1 : Lo p.name) (h2 : Lo p.on) (h3 : p.times.Fit) : Calls Tryz.prog 24 #[.agg #[.string (ba p.name), .string (ba p.on), .int .i64 p.times.start, .int .i64 p.times.every, .int .i64 p.times.len]] w fun e w' => e = .returned (.string (ba (hazL p))) ∧ Below w.heap.size w w' := by
  have HS := Lib.hid (haz_sum p)
  have b0 : (ba p.name).size ≤ 1048576 := by rw [ba_size]; exact h1
  have b1 : (ba p.on).size ≤ 1048576 := by rw [ba_size]; exact h2
  have b2 : (ba (32 :: timesL p.times kClosed)).size ≤ 151 := by rw [ba_size, List.length_cons]; exact Nat.succ_le_succ (timesL_le h3 (by decide))
  have z1 : ((⟨#[104, 97, 122, 97, 114, 100, 32]⟩ : ByteArray) ++ ba p.name : ByteArray).size ≤ 1048583 := by rw [ByteArray.size_append]; exact Nat.add_le_add (Nat.le_of_eq rfl) b0
  have z2 : ((⟨#[104, 97, 122, 97, 114, 100, 32]⟩ : ByteArray) ++ ba p.name ++ ⟨#[32, 111, 110, 32]⟩ : ByteArray).size ≤ 1048587 := by rw [ByteArray.size_append]; exact Nat.add_le_add z1 (Nat.le_of_eq rfl)
  have z3 : ((⟨#[104, 97, 122, 97, 114, 100, 32]⟩ : ByteArray) ++ ba p.name ++ ⟨#[32, 111, 110, 32]⟩ ++ ba p.on : ByteArray).size ≤ 2097163 := by rw [ByteArray.size_append]; exact Nat.add_le_add z2 b1
  have z4 : ((⟨#[104, 97, 122, 97, 114, 100, 32]⟩ : ByteArray) ++ ba p.name ++ ⟨#[32, 111, 110, 32]⟩ ++ ba p.on ++ ba (32 :: timesL p.times kClosed) : ByteArray).size ≤ 2097314 := by rw [ByteArray.size_append]; exact Nat.add_le_add z3 b2
  go_enter Tryz.func24, Tryz.ntmps24
  go_upto_region 1 with fail
  obtain ⟨w1, hw1⟩ : ∃ w1, w.alloc (.cells #[.string (ba p.name), .string (ba p.on), .int .i64 p.times.start, .int .i64 p.times.every, .int .i64 p.times.len] 42) = w1 := ⟨_, rfl⟩
  have hq1 : w1.heap[w.heap.size]? = some (.cells #[.string (ba p.name), .string (ba p.on), .int .i64 p.times.start, .int .i64 p.times.every, .int .i64 p.times.len] 42 (0, 0)) := by rw [← hw1]; exact heap_alloc_new _ _
  have HB1 := Lib.hid (show Below w.heap.size w w1 by rw [← hw1]; exact (Below.refl _ _).alloc (Nat.le_refl _) _)
  have hlt : w.heap.size < w1.heap.size := by rw [← hw1]; simp
  rw [hw1]
  clear hw1
  have HC := Lib.hid (fun (wy : World) (hy : Below w1.heap.size w1 wy) => (show wy.cell? ⟨w.heap.size, 0, none⟩ = some (.string (ba p.name)) ∧ wy.cell? ⟨w.heap.size, 1, none⟩ = some (.string (ba p.on)) ∧ wy.cell? ⟨w.heap.size, 2, none⟩ = some (.int .i64 p.times.start) ∧ wy.cell? ⟨w.heap.size, 3, none⟩ = some (.int .i64 p.times.every) ∧ wy.cell? ⟨w.heap.size, 4, none⟩ = some (.int .i64 p.times.len) ∧ True ∧ True from ⟨(hy.cell (p := ⟨w.heap.size, 0, none⟩) hlt).trans (Lib.cell_of_heap hq1 0), (hy.cell (p := ⟨w.heap.size, 1, none⟩) hlt).trans (Lib.cell_of_heap hq1 1), (hy.cell (p := ⟨w.heap.size, 2, none⟩) hlt).trans (Lib.cell_of_heap hq1 2), (hy.cell (p := ⟨w.heap.size, 3, none⟩) hlt).trans (Lib.cell_of_heap hq1 3), (hy.cell (p := ⟨w.heap.size, 4, none⟩) hlt).trans (Lib.cell_of_heap hq1 4), trivial, trivial⟩))
  clear hq1 hlt
  have hSw : Below w1.heap.size w1 w1 := Below.refl _ _
  refine wp_region_kinds (fun wy => Below w1.heap.size w1 wy) [9] [] [1, 5, 8] [0, 2, 3, 4, 6, 7, 10, 11] [0, 1, 2, 3, 4, 5, 6, 7, 8, 9, 10, 11] (by kernel_rfl) (by kernel_rfl) (fun w n h => below_drewN h n) ?_
  repeat (first | (refine wpKind_free (v := ?_) (by rfl) rfl (by rfl) ?_ ?_; rotate_left 1; (focus (intro wy; go_simp; rw [if_neg (by omega)]; done)); try simp only [Act.put, List.setIfInBounds_toArray, List.set_cons_zero, List.set_cons_succ]) | (refine wpKind_free (v := ?_) (by rfl) rfl (by rfl) ?_ ?_; rotate_left 1; (focus (intro wy; go_simp; try with_reducible rfl; done)); try simp only [Act.put, List.setIfInBounds_toArray, List.set_cons_zero, List.set_cons_succ]) | (refine wpKind_held (v := ?_) (by rfl) rfl (by rfl) hSw ?_ ?_; rotate_left 1; (focus (intro wy hSy; obtain ⟨s0, s1, s2, s3, s4, s5, s6⟩ := HC.out wy hSy; go_simp; try with_reducible rfl; done)); try simp only [Act.put, List.setIfInBounds_toArray, List.set_cons_zero, List.set_cons_succ]))
  refine wpKind_keeps (by rfl) rfl (fun n1 => ?_)
  go_wp2_with fail
  refine (ztimes_any (w1.drewN n1) p.times kClosed h3 (by decide)).mono ?_
  rintro e w2 ⟨rfl, hb⟩
  have hSw2 : Below w1.heap.size w1 w2 := (below_drewN hSw n1).trans (hb.mono (by exact hSw.size))
  clear hb hSw
  go_wp2_with fail
  show _ ∧ _
  refine ⟨hSw2, ?_⟩
  have hSw := hSw2
  clear hSw2
  repeat (first | (refine wpKind_free (v := ?_) (by rfl) rfl (by rfl) ?_ ?_; rotate_left 1; (focus (intro wy; go_simp; rw [if_neg (by omega)]; done)); try simp only [Act.put, List.setIfInBounds_toArray, List.set_cons_zero, List.set_cons_succ]) | (refine wpKind_free (v := ?_) (by rfl) rfl (by rfl) ?_ ?_; rotate_left 1; (focus (intro wy; go_simp; try with_reducible rfl; done)); try simp only [Act.put, List.setIfInBounds_toArray, List.set_cons_zero, List.set_cons_succ]) | (refine wpKind_held (v := ?_) (by rfl) rfl (by rfl) hSw ?_ ?_; rotate_left 1; (focus (intro wy hSy; obtain ⟨s0, s1, s2, s3, s4, s5, s6⟩ := HC.out wy hSy; go_simp; try with_reducible rfl; done)); try simp only [Act.put, List.setIfInBounds_toArray, List.set_cons_zero, List.set_cons_succ]))
  refine wpKind_nil fun n9 => ?_
  go_wp2_with fail
  go_ret
  exact ⟨by rw [← HS.out]; rfl, HB1.out.trans ((below_drewN hSw n9).mono HB1.out.size)⟩
end Go.Proofs.YtmihinhbcncbfaaGreatDoor
