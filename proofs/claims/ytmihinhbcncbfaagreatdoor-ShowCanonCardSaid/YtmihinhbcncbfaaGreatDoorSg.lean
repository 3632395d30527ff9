/- The walks of show.Door and show.Hazard: their regions draw their order. -/
import Derived.Test.YtmihinhbcncbfaaGreatDoorSw
import Derived.Test.YtmihinhbcncbfaaGreatDoorMh
namespace Go.Proofs.YtmihinhbcncbfaaGreatDoor
open Go.RowKit

/-- The block holds the door's cells. -/
def DoorAt (b : Nat) (p : DoorD) (w : World) : Prop := w.cell? ⟨b, 0, none⟩ = some (.string (ba p.name)) ∧ w.cell? ⟨b, 1, none⟩ = some (.string (ba p.a)) ∧ w.cell? ⟨b, 2, none⟩ = some (.string (ba p.b)) ∧ w.cell? ⟨b, 3, none⟩ = some (.int .i64 p.len) ∧ w.cell? ⟨b, 4, none⟩ = some (.int .i64 p.times.start) ∧ w.cell? ⟨b, 5, none⟩ = some (.int .i64 p.times.every) ∧ w.cell? ⟨b, 6, none⟩ = some (.int .i64 p.times.len)
theorem DoorAt.of {w : World} {b : Nat} {p : DoorD} {t : TypeId} {fr : Nat × Nat} (h : w.heap[b]? = some (.cells (dc p).toArray t fr)) : DoorAt b p w :=
  ⟨Lib.cell_of_heap h 0, Lib.cell_of_heap h 1, Lib.cell_of_heap h 2, Lib.cell_of_heap h 3, Lib.cell_of_heap h 4, Lib.cell_of_heap h 5, Lib.cell_of_heap h 6⟩
theorem DoorAt.below {w w' : World} {b : Nat} {p : DoorD} (h : DoorAt b p w) (hb : Below w.heap.size w w') (hlt : b < w.heap.size) : DoorAt b p w' := by
  obtain ⟨s0, s1, s2, s3, s4, s5, s6⟩ := h
  exact ⟨(hb.cell (p := ⟨b, 0, none⟩) hlt).trans s0, (hb.cell (p := ⟨b, 1, none⟩) hlt).trans s1, (hb.cell (p := ⟨b, 2, none⟩) hlt).trans s2, (hb.cell (p := ⟨b, 3, none⟩) hlt).trans s3, (hb.cell (p := ⟨b, 4, none⟩) hlt).trans s4, (hb.cell (p := ⟨b, 5, none⟩) hlt).trans s5, (hb.cell (p := ⟨b, 6, none⟩) hlt).trans s6⟩
set_option maxRecDepth 100000 in
set_option maxHeartbeats 1000000 in
theorem door_any (w : World) (p : DoorD) (hT : Pow w) (h1 : I64 p.len) (h2 : p.times.Fit) (hl : (doorL p).length ≤ 140737488355328) (hl2 : (timesL p.times kOpen).length ≤ 140737488355328) :
    Calls Tryz.prog 17 #[.agg (dc p).toArray] w fun e w' => e = .returned (.string (ba (doorL p))) ∧ Below w.heap.size w w' := by
  have HC := fun (w3 : World) (h3 : Pow w3) => Lib.hid (line_new w3 w3.heap.size 6 _ 20 (doorW p) rfl rfl (by decide) rfl hl (by
    unfold doorW
    intro y hy
    simp only [List.mem_cons, List.not_mem_nil, or_false] at hy
    rcases hy with rfl | rfl | rfl | rfl | rfl | rfl <;> first | trivial | exact h1) h3)
  have HM := fun (w3 : World) (h3 : Pow w3) => Lib.hid (times_any w3 p.times kOpen h3 h2 hl2)
  obtain ⟨w1, hw1⟩ : ∃ w1, w.alloc (.cells (dc p).toArray 35) = w1 := ⟨_, rfl⟩
  have hSw : DoorAt w.heap.size p w1 := by rw [← hw1]; exact DoorAt.of (heap_alloc_new _ _)
  have hb1 : Below w.heap.size w w1 := by rw [← hw1]; exact (Below.refl _ _).alloc (Nat.le_refl _) _
  have hlt : w.heap.size < w1.heap.size := by rw [← hw1]; simp
  have HB1 := Lib.hid hb1
  have HT1 := Lib.hid (hT.below hb1)
  have HLT := Lib.hid hlt
  unfold dc at hw1
  clear hl hl2 hT h1 h2 hb1 hlt
  unfold dc
  go_enter Tryz.func17, Tryz.ntmps17
  go_wp2_with fail
  clear hw1
  refine wp_region_kinds (DoorAt w.heap.size p) [15, 17] [18] [2, 5, 8, 11, 14] [0, 1, 3, 4, 6, 7, 9, 10, 12, 13, 16, 19] [0, 1, 2, 3, 4, 5, 6, 7, 8, 9, 10, 11, 12, 13, 14, 15, 16, 17, 18, 19] (by kernel_rfl) (by kernel_rfl) (fun w n h => h) ?_
  repeat (first | (refine wpKind_free (v := ?_) (by rfl) rfl (by rfl) ?_ ?_; rotate_left 1; (focus (intro wy; go_simp; try with_reducible rfl; done)); try simp only [Act.put, List.setIfInBounds_toArray, List.set_cons_zero, List.set_cons_succ]) | (refine wpKind_held (v := ?_) (by rfl) rfl (by rfl) hSw ?_ ?_; rotate_left 1; (focus (intro wy hSy; obtain ⟨s0, s1, s2, s3, s4, s5, s6⟩ := hSy; go_simp; try with_reducible rfl; done)); try simp only [Act.put, List.setIfInBounds_toArray, List.set_cons_zero, List.set_cons_succ]))
  refine wpKind_keeps (by rfl) rfl (fun n1 => ?_)
  go_wp2_with fail
  refine (HM (w1.drewN n1) HT1.out).out.mono ?_
  rintro e w2 ⟨rfl, hb2⟩
  have hB2 : Below w1.heap.size w1 w2 := Below.lift (below_drewN (Below.refl _ _) n1) hb2
  have hS2 := hSw.below hB2 HLT.out
  have HB2 := Lib.hid (HB1.out.trans (hB2.mono HB1.out.size))
  have HT2 := Lib.hid (HT1.out.below hB2)
  have HS2 := Lib.hid hB2.size
  clear hb2 hB2 hSw
  have hSw := hS2
  clear hS2
  go_wp2_with fail
  show _ ∧ _
  refine ⟨hSw, ?_⟩
  repeat (first | (refine wpKind_free (v := ?_) (by rfl) rfl (by rfl) ?_ ?_; rotate_left 1; (focus (intro wy; go_simp; try with_reducible rfl; done)); try simp only [Act.put, List.setIfInBounds_toArray, List.set_cons_zero, List.set_cons_succ]) | (refine wpKind_held (v := ?_) (by rfl) rfl (by rfl) hSw ?_ ?_; rotate_left 1; (focus (intro wy hSy; obtain ⟨s0, s1, s2, s3, s4, s5, s6⟩ := hSy; go_simp; try with_reducible rfl; done)); try simp only [Act.put, List.setIfInBounds_toArray, List.set_cons_zero, List.set_cons_succ]))
  refine wpKind_keeps (by rfl) rfl (fun n2 => ?_)
  go_wp2_with fail
  show _ ∧ _
  refine ⟨hSw.below (show Below w2.heap.size w2 _ from (below_drewN (Below.refl _ _) n2).alloc (Nat.le_refl _) _) (Nat.lt_of_lt_of_le HLT.out HS2.out), ?_⟩
  refine wpKind_serial (by rfl) rfl (fun n3 => ?_)
  go_wp2_with fail
  refine (HC ((w2.drewN n2).drewN n3) HT2.out).out.mono ?_
  rintro e w4 ⟨rfl, hb4⟩
  have HB4 := Lib.hid (HB2.out.trans ((Below.lift (below_drewN (below_drewN (Below.refl w2.heap.size w2) n2) n3) hb4).mono HB2.out.size))
  clear hb4 hSw
  go_wp2_with fail
  repeat (first | (refine wpKind_free (v := ?_) (by rfl) rfl (by rfl) ?_ ?_; rotate_left 1; (focus (intro wy; go_simp; try with_reducible rfl; done)); try simp only [Act.put, List.setIfInBounds_toArray, List.set_cons_zero, List.set_cons_succ]) | (refine wpKind_held (v := ?_) (by rfl) rfl (by rfl) hSw ?_ ?_; rotate_left 1; (focus (intro wy hSy; obtain ⟨s0, s1, s2, s3, s4, s5, s6⟩ := hSy; go_simp; try with_reducible rfl; done)); try simp only [Act.put, List.setIfInBounds_toArray, List.set_cons_zero, List.set_cons_succ]))
  refine wpKind_nil fun n5 => ?_
  go_wp2_with fail
  go_ret
  exact ⟨rfl, below_drewN HB4.out n5⟩

/-- The block holds the hazard's cells. -/
def HazAt (b : Nat) (p : HazD) (w : World) : Prop := w.cell? ⟨b, 0, none⟩ = some (.string (ba p.name)) ∧ w.cell? ⟨b, 1, none⟩ = some (.string (ba p.on)) ∧ w.cell? ⟨b, 2, none⟩ = some (.int .i64 p.times.start) ∧ w.cell? ⟨b, 3, none⟩ = some (.int .i64 p.times.every) ∧ w.cell? ⟨b, 4, none⟩ = some (.int .i64 p.times.len)
theorem HazAt.of {w : World} {b : Nat} {p : HazD} {t : TypeId} {fr : Nat × Nat} (h : w.heap[b]? = some (.cells (hc p).toArray t fr)) : HazAt b p w :=
  ⟨Lib.cell_of_heap h 0, Lib.cell_of_heap h 1, Lib.cell_of_heap h 2, Lib.cell_of_heap h 3, Lib.cell_of_heap h 4⟩
theorem HazAt.below {w w' : World} {b : Nat} {p : HazD} (h : HazAt b p w) (hb : Below w.heap.size w w') (hlt : b < w.heap.size) : HazAt b p w' := by
  obtain ⟨s0, s1, s2, s3, s4⟩ := h
  exact ⟨(hb.cell (p := ⟨b, 0, none⟩) hlt).trans s0, (hb.cell (p := ⟨b, 1, none⟩) hlt).trans s1, (hb.cell (p := ⟨b, 2, none⟩) hlt).trans s2, (hb.cell (p := ⟨b, 3, none⟩) hlt).trans s3, (hb.cell (p := ⟨b, 4, none⟩) hlt).trans s4⟩
set_option maxRecDepth 100000 in
set_option maxHeartbeats 1000000 in
theorem haz_any (w : World) (p : HazD) (hT : Pow w) (h2 : p.times.Fit) (hl : (hazL p).length ≤ 140737488355328) (hl2 : (timesL p.times kClosed).length ≤ 140737488355328) :
    Calls Tryz.prog 23 #[.agg (hc p).toArray] w fun e w' => e = .returned (.string (ba (hazL p))) ∧ Below w.heap.size w w' := by
  have HC := fun (w3 : World) (h3 : Pow w3) => Lib.hid (line_new w3 w3.heap.size 5 _ 20 (hazW p) rfl rfl (by decide) rfl hl (by
    unfold hazW
    intro y hy
    simp only [List.mem_cons, List.not_mem_nil, or_false] at hy
    rcases hy with rfl | rfl | rfl | rfl | rfl <;> trivial) h3)
  have HM := fun (w3 : World) (h3 : Pow w3) => Lib.hid (times_any w3 p.times kClosed h3 h2 hl2)
  obtain ⟨w1, hw1⟩ : ∃ w1, w.alloc (.cells (hc p).toArray 42) = w1 := ⟨_, rfl⟩
  have hSw : HazAt w.heap.size p w1 := by rw [← hw1]; exact HazAt.of (heap_alloc_new _ _)
  have hb1 : Below w.heap.size w w1 := by rw [← hw1]; exact (Below.refl _ _).alloc (Nat.le_refl _) _
  have hlt : w.heap.size < w1.heap.size := by rw [← hw1]; simp
  have HB1 := Lib.hid hb1
  have HT1 := Lib.hid (hT.below hb1)
  have HLT := Lib.hid hlt
  unfold hc at hw1
  clear hl hl2 hT h2 hb1 hlt
  unfold hc
  go_enter Tryz.func23, Tryz.ntmps23
  go_wp2_with fail
  clear hw1
  refine wp_region_kinds (HazAt w.heap.size p) [10, 12] [13] [2, 6, 9] [0, 1, 3, 4, 5, 7, 8, 11, 14] [0, 1, 2, 3, 4, 5, 6, 7, 8, 9, 10, 11, 12, 13, 14] (by kernel_rfl) (by kernel_rfl) (fun w n h => h) ?_
  repeat (first | (refine wpKind_free (v := ?_) (by rfl) rfl (by rfl) ?_ ?_; rotate_left 1; (focus (intro wy; go_simp; try with_reducible rfl; done)); try simp only [Act.put, List.setIfInBounds_toArray, List.set_cons_zero, List.set_cons_succ]) | (refine wpKind_held (v := ?_) (by rfl) rfl (by rfl) hSw ?_ ?_; rotate_left 1; (focus (intro wy hSy; obtain ⟨s0, s1, s2, s3, s4⟩ := hSy; go_simp; try with_reducible rfl; done)); try simp only [Act.put, List.setIfInBounds_toArray, List.set_cons_zero, List.set_cons_succ]))
  refine wpKind_keeps (by rfl) rfl (fun n1 => ?_)
  go_wp2_with fail
  refine (HM (w1.drewN n1) HT1.out).out.mono ?_
  rintro e w2 ⟨rfl, hb2⟩
  have hB2 : Below w1.heap.size w1 w2 := Below.lift (below_drewN (Below.refl _ _) n1) hb2
  have hS2 := hSw.below hB2 HLT.out
  have HB2 := Lib.hid (HB1.out.trans (hB2.mono HB1.out.size))
  have HT2 := Lib.hid (HT1.out.below hB2)
  have HS2 := Lib.hid hB2.size
  clear hb2 hB2 hSw
  have hSw := hS2
  clear hS2
  go_wp2_with fail
  show _ ∧ _
  refine ⟨hSw, ?_⟩
  repeat (first | (refine wpKind_free (v := ?_) (by rfl) rfl (by rfl) ?_ ?_; rotate_left 1; (focus (intro wy; go_simp; try with_reducible rfl; done)); try simp only [Act.put, List.setIfInBounds_toArray, List.set_cons_zero, List.set_cons_succ]) | (refine wpKind_held (v := ?_) (by rfl) rfl (by rfl) hSw ?_ ?_; rotate_left 1; (focus (intro wy hSy; obtain ⟨s0, s1, s2, s3, s4⟩ := hSy; go_simp; try with_reducible rfl; done)); try simp only [Act.put, List.setIfInBounds_toArray, List.set_cons_zero, List.set_cons_succ]))
  refine wpKind_keeps (by rfl) rfl (fun n2 => ?_)
  go_wp2_with fail
  show _ ∧ _
  refine ⟨hSw.below (show Below w2.heap.size w2 _ from (below_drewN (Below.refl _ _) n2).alloc (Nat.le_refl _) _) (Nat.lt_of_lt_of_le HLT.out HS2.out), ?_⟩
  refine wpKind_serial (by rfl) rfl (fun n3 => ?_)
  go_wp2_with fail
  refine (HC ((w2.drewN n2).drewN n3) HT2.out).out.mono ?_
  rintro e w4 ⟨rfl, hb4⟩
  have HB4 := Lib.hid (HB2.out.trans ((Below.lift (below_drewN (below_drewN (Below.refl w2.heap.size w2) n2) n3) hb4).mono HB2.out.size))
  clear hb4 hSw
  go_wp2_with fail
  repeat (first | (refine wpKind_free (v := ?_) (by rfl) rfl (by rfl) ?_ ?_; rotate_left 1; (focus (intro wy; go_simp; try with_reducible rfl; done)); try simp only [Act.put, List.setIfInBounds_toArray, List.set_cons_zero, List.set_cons_succ]) | (refine wpKind_held (v := ?_) (by rfl) rfl (by rfl) hSw ?_ ?_; rotate_left 1; (focus (intro wy hSy; obtain ⟨s0, s1, s2, s3, s4⟩ := hSy; go_simp; try with_reducible rfl; done)); try simp only [Act.put, List.setIfInBounds_toArray, List.set_cons_zero, List.set_cons_succ]))
  refine wpKind_nil fun n5 => ?_
  go_wp2_with fail
  go_ret
  exact ⟨rfl, below_drewN HB4.out n5⟩
end Go.Proofs.YtmihinhbcncbfaaGreatDoor
