/- The walk of timetablekit.OwnRoute. -/
import Derived.Test.YteonefgbdphmiaaGreatDoorLk
import Derived.Test.YteonefgbdphmiaaGreatDoorOv
import Derived.Test.YteonefgbdphmiaaGreatDoorKl
namespace Go.Proofs.YteonefgbdphmiaaGreatDoor
open Go.RowKit
def R4 (b : Nat) (v0 v1 v2 v3 : Value) (w : World) : Prop := w.cell? ⟨b, 0, none⟩ = some v0 ∧ w.cell? ⟨b, 1, none⟩ = some v1 ∧ w.cell? ⟨b, 2, none⟩ = some v2 ∧ w.cell? ⟨b, 3, none⟩ = some v3
theorem R4.below {b : Nat} {v0 v1 v2 v3 : Value} {w w' : World} (h : R4 b v0 v1 v2 v3 w) (hb : Below w.heap.size w w') (hlt : b < w.heap.size) : R4 b v0 v1 v2 v3 w' := by
  obtain ⟨s0, s1, s2, s3⟩ := h
  exact ⟨(hb.cell (p := ⟨b, 0, none⟩) hlt).trans s0, (hb.cell (p := ⟨b, 1, none⟩) hlt).trans s1, (hb.cell (p := ⟨b, 2, none⟩) hlt).trans s2, (hb.cell (p := ⟨b, 3, none⟩) hlt).trans s3⟩
set_option maxHeartbeats 2000000 in
set_option maxRecDepth 100000 in
theorem ownRoute_any (w : World) (r : RouteM) {P : Nat → Prop} (hg : r.Good w P) (h1 : r.stops.length ≤ 1000) (h2 : r.rides.length ≤ 1000) (h3 : r.stays.length ≤ 1000) :
    Calls Tryz.prog 43 #[.agg (rc r).toArray] w fun e w' => ∃ r' : RouteM, r'.d = r.d ∧ e = .returned (.agg (rc r').toArray) ∧ r'.Good w' (fun b => w.heap.size ≤ b) ∧ Below w.heap.size w w' := by
  obtain ⟨w1, hw1⟩ : ∃ w1, (w.alloc (.cells (rc r).toArray 57)).alloc (.cells #[.string ⟨#[]⟩, .slice none 0 0, .slice none 0 0, .slice none 0 0] 57) = w1 := ⟨_, rfl⟩
  have hb1 : Below w.heap.size w w1 := by rw [← hw1]; exact ((Below.refl _ _).alloc (Nat.le_refl _) _).alloc (by simp) _
  have hSw : R4 w.heap.size (.string (ba r.name)) r.vs r.vr r.vy w1 := by
    rw [← hw1]
    have h0 : ((w.alloc (.cells (rc r).toArray 57)).alloc (.cells #[.string ⟨#[]⟩, .slice none 0 0, .slice none 0 0, .slice none 0 0] 57)).heap[w.heap.size]? = some (.cells (rc r).toArray 57 (0, 0)) := by
      rw [heap_alloc_old _ _ (by simp)]; exact heap_alloc_new _ _
    exact ⟨Lib.cell_of_heap h0 0, Lib.cell_of_heap h0 1, Lib.cell_of_heap h0 2, Lib.cell_of_heap h0 3⟩
  have hR : w1.heap[w.heap.size + 1]? = some (.cells #[.string ⟨#[]⟩, .slice none 0 0, .slice none 0 0, .slice none 0 0] 57 (0, 0)) := by
    rw [← hw1]
    have := heap_alloc_new (w.alloc (.cells (rc r).toArray 57)) (.cells #[.string ⟨#[]⟩, .slice none 0 0, .slice none 0 0, .slice none 0 0] 57)
    simpa using this
  have HB1 := Lib.hid hb1
  have HR1 := Lib.hid hR
  have HLT := Lib.hid (show w.heap.size + 1 < w1.heap.size by rw [← hw1]; simp)
  have HG1 := Lib.hid (hg.below_ hb1)
  obtain ⟨A1, z1, g1, _, _⟩ := hg.stops.shape
  obtain ⟨A2, z2, g2, _, _⟩ := hg.rides.shape
  obtain ⟨A3, z3, g3, _, _⟩ := hg.stays.shape
  have HC1 := Lib.hid fun wy (hb : Below w1.heap.size w1 wy) => nown_any wy r.vs r.stops (HG1.out.below_ hb).stops (by omega)
  have HC2 := Lib.hid fun wy (hb : Below w1.heap.size w1 wy) => own_i64 wy r.vr r.rides (HG1.out.below_ hb).rides (by omega)
  have HC3 := Lib.hid fun wy (hb : Below w1.heap.size w1 wy) => own_i64 wy r.vy r.stays (HG1.out.below_ hb).stays (by omega)
  unfold rc at hw1
  unfold rc
  rw [g1, g2, g3] at hw1 hSw
  rw [g1] at HC1
  rw [g2] at HC2
  rw [g3] at HC3
  rw [g1, g2, g3]
  clear hR hb1 hg g1 g2 g3
  go_enter Tryz.func43, Tryz.ntmps43
  go_wp2_with fail
  clear hw1
  refine wp_region_kinds (R4 w.heap.size (.string (ba r.name)) (.slice A1 r.stops.length z1) (.slice A2 r.rides.length z2) (.slice A3 r.stays.length z3)) [4, 7, 10] [12] [1, 3, 6, 9] [0, 2, 5, 8, 11] [0, 1, 2, 3, 5, 6, 8, 9, 4, 7, 10, 11, 12] (by kernel_rfl) (by kernel_rfl) (fun w n h => h) ?_
  repeat (first | (refine wpKind_free (v := ?_) (by rfl) rfl (by rfl) ?_ ?_; rotate_left 1; (focus (intro wy; go_simp; try with_reducible rfl; done)); try simp only [Act.put, List.setIfInBounds_toArray, List.set_cons_zero, List.set_cons_succ]) | (refine wpKind_held (v := ?_) (by rfl) rfl (by rfl) hSw ?_ ?_; rotate_left 1; (focus (intro wy hSy; obtain ⟨s0, s1, s2, s3⟩ := hSy; go_simp; try with_reducible rfl; done)); try simp only [Act.put, List.setIfInBounds_toArray, List.set_cons_zero, List.set_cons_succ]))
  refine wpKind_keeps (by rfl) rfl (fun m1 => ?_)
  go_wp2_with fail
  refine (HC1.out (w1.drewN m1) (below_drewN (Below.refl _ _) m1)).mono ?_
  rintro e w2 ⟨v1, rfl, ho1, hb2⟩
  have hB2 : Below w1.heap.size w1 w2 := Below.lift (below_drewN (Below.refl _ _) m1) hb2
  have hS2 := hSw.below hB2 (Nat.lt_of_succ_lt HLT.out)
  have HB2 := Lib.hid hB2
  have HO1 := Lib.hid ho1
  obtain ⟨B1, l1, k1, ev1⟩ := ow_form ho1
  subst ev1
  clear hb2 hB2 hSw ho1
  have hSw := hS2
  clear hS2
  go_wp2_with fail
  show _ ∧ _
  refine ⟨hSw, ?_⟩
  repeat (first | (refine wpKind_free (v := ?_) (by rfl) rfl (by rfl) ?_ ?_; rotate_left 1; (focus (intro wy; go_simp; try with_reducible rfl; done)); try simp only [Act.put, List.setIfInBounds_toArray, List.set_cons_zero, List.set_cons_succ]) | (refine wpKind_held (v := ?_) (by rfl) rfl (by rfl) hSw ?_ ?_; rotate_left 1; (focus (intro wy hSy; obtain ⟨s0, s1, s2, s3⟩ := hSy; go_simp; try with_reducible rfl; done)); try simp only [Act.put, List.setIfInBounds_toArray, List.set_cons_zero, List.set_cons_succ]))
  refine wpKind_keeps (by rfl) rfl (fun m2 => ?_)
  go_wp2_with fail
  refine (HC2.out (w2.drewN m2) (below_drewN HB2.out m2)).mono ?_
  rintro e w3 ⟨v2, rfl, ho2, hb3⟩
  have hB23 : Below w2.heap.size w2 w3 := Below.lift (below_drewN (Below.refl _ _) m2) hb3
  have hB3 : Below w1.heap.size w1 w3 := HB2.out.trans (hB23.mono HB2.out.size)
  have hS3 := hSw.below hB23 (Nat.lt_of_lt_of_le (Nat.lt_of_succ_lt HLT.out) HB2.out.size)
  have HB3 := Lib.hid hB3
  have HO2 := Lib.hid ho2
  have HO1b := Lib.hid (Ow.below HO1.out hB23 fun q hq => (HO1.out.lt hq).2)
  obtain ⟨B2, l2, k2, ev2⟩ := ow_form ho2
  subst ev2
  clear hb3 hB3 hB23 hSw ho2
  have hSw := hS3
  clear hS3
  go_wp2_with fail
  show _ ∧ _
  refine ⟨hSw, ?_⟩
  repeat (first | (refine wpKind_free (v := ?_) (by rfl) rfl (by rfl) ?_ ?_; rotate_left 1; (focus (intro wy; go_simp; try with_reducible rfl; done)); try simp only [Act.put, List.setIfInBounds_toArray, List.set_cons_zero, List.set_cons_succ]) | (refine wpKind_held (v := ?_) (by rfl) rfl (by rfl) hSw ?_ ?_; rotate_left 1; (focus (intro wy hSy; obtain ⟨s0, s1, s2, s3⟩ := hSy; go_simp; try with_reducible rfl; done)); try simp only [Act.put, List.setIfInBounds_toArray, List.set_cons_zero, List.set_cons_succ]))
  refine wpKind_keeps (by rfl) rfl (fun m3 => ?_)
  go_wp2_with fail
  refine (HC3.out (w3.drewN m3) (below_drewN HB3.out m3)).mono ?_
  rintro e w4 ⟨v3, rfl, ho3, hb4⟩
  have hB34 : Below w3.heap.size w3 w4 := Below.lift (below_drewN (Below.refl _ _) m3) hb4
  have hB4 : Below w1.heap.size w1 w4 := HB3.out.trans (hB34.mono HB3.out.size)
  have hS4 := hSw.below hB34 (Nat.lt_of_lt_of_le (Nat.lt_of_succ_lt HLT.out) HB3.out.size)
  have HB4 := Lib.hid hB4
  have HO3 := Lib.hid ho3
  have HO1c := Lib.hid (Ow.below HO1b.out hB34 fun q hq => (HO1b.out.lt hq).2)
  have HO2c := Lib.hid (Ow.below HO2.out hB34 fun q hq => (HO2.out.lt hq).2)
  obtain ⟨B3, l3, k3, ev3⟩ := ow_form ho3
  subst ev3
  have hR4 : w4.heap[w.heap.size + 1]? = some (.cells #[.string ⟨#[]⟩, .slice none 0 0, .slice none 0 0, .slice none 0 0] 57 (0, 0)) := (hB4.block _ HLT.out).trans HR1.out
  clear hb4 hB4 hB34 hSw ho3
  have hSw := hS4
  clear hS4
  go_wp2_with fail
  show _ ∧ _
  refine ⟨hSw, ?_⟩
  repeat (first | (refine wpKind_free (v := ?_) (by rfl) rfl (by rfl) ?_ ?_; rotate_left 1; (focus (intro wy; go_simp; try with_reducible rfl; done)); try simp only [Act.put, List.setIfInBounds_toArray, List.set_cons_zero, List.set_cons_succ]) | (refine wpKind_held (v := ?_) (by rfl) rfl (by rfl) hSw ?_ ?_; rotate_left 1; (focus (intro wy hSy; obtain ⟨s0, s1, s2, s3⟩ := hSy; go_simp; try with_reducible rfl; done)); try simp only [Act.put, List.setIfInBounds_toArray, List.set_cons_zero, List.set_cons_succ]))
  have HR4 := Lib.hid hR4
  have x0 : w4.cell? ⟨w.heap.size + 1, 0, none⟩ = some (.string ⟨#[]⟩) := Lib.cell_of_heap hR4 0
  have x1 : w4.cell? ⟨w.heap.size + 1, 1, none⟩ = some (.slice none 0 0) := Lib.cell_of_heap hR4 1
  have x2 : w4.cell? ⟨w.heap.size + 1, 2, none⟩ = some (.slice none 0 0) := Lib.cell_of_heap hR4 2
  have x3 : w4.cell? ⟨w.heap.size + 1, 3, none⟩ = some (.slice none 0 0) := Lib.cell_of_heap hR4 3
  have f0 : w4.frozen? ⟨w.heap.size + 1, 0, none⟩ = false := Lib.frozen_of_heap hR4 0
  have f1 : w4.frozen? ⟨w.heap.size + 1, 1, none⟩ = false := Lib.frozen_of_heap hR4 1
  have f2 : w4.frozen? ⟨w.heap.size + 1, 2, none⟩ = false := Lib.frozen_of_heap hR4 2
  have f3 : w4.frozen? ⟨w.heap.size + 1, 3, none⟩ = false := Lib.frozen_of_heap hR4 3
  clear hR4 hSw
  refine wpKind_serial (by rfl) rfl (fun m4 => ?_)
  go_wp2_with fail
  obtain ⟨w5, hw5⟩ : ∃ w5, (((((w4.drewN m4).setCell ⟨w.heap.size + 1, 0, none⟩ (.string (ba r.name))).setCell ⟨w.heap.size + 1, 1, none⟩ (.slice B1 l1 k1)).setCell ⟨w.heap.size + 1, 2, none⟩ (.slice B2 l2 k2)).setCell ⟨w.heap.size + 1, 3, none⟩ (.slice B3 l3 k3)) = w5 := ⟨_, rfl⟩
  have hn1 : (Value.slice B1 l1 k1).ownBlock ≠ some (w.heap.size + 1) := fun h => by have h2 := (HO1c.out.lt h).1; have h3 := HLT.out; have h4 : (w1.drewN m1).heap.size = w1.heap.size := rfl; omega
  have hn2 : (Value.slice B2 l2 k2).ownBlock ≠ some (w.heap.size + 1) := fun h => by have h2 := (HO2c.out.lt h).1; have h3 := HLT.out; have h4 : (w2.drewN m2).heap.size = w2.heap.size := rfl; have h5 := HB2.out.size; omega
  have hn3 : (Value.slice B3 l3 k3).ownBlock ≠ some (w.heap.size + 1) := fun h => by have h2 := (HO3.out.lt h).1; have h3 := HLT.out; have h4 : (w3.drewN m3).heap.size = w3.heap.size := rfl; have h5 := HB3.out.size; omega
  have hR5 : w5.heap[w.heap.size + 1]? = some (.cells #[.string (ba r.name), .slice B1 l1 k1, .slice B2 l2 k2, .slice B3 l3 k3] 57 (0, 0)) := by
    rw [← hw5]
    have q0 := heap_setCell_same (w4.drewN m4) (w.heap.size + 1) 0 _ _ (.string (ba r.name)) HR4.out
    have q1 := heap_setCell_same _ (w.heap.size + 1) 1 _ _ (.slice B1 l1 k1) q0
    have q2 := heap_setCell_same _ (w.heap.size + 1) 2 _ _ (.slice B2 l2 k2) q1
    exact heap_setCell_same _ (w.heap.size + 1) 3 _ _ (.slice B3 l3 k3) q2
  have hO1 : Ow nc 1 w5 w.heap.size 9 (.slice B1 l1 k1) r.stops := by
    rw [← hw5]
    exact (((((HO1c.out.lower (Nat.le_of_lt (Nat.lt_of_succ_lt HLT.out))).drewN m4).set hn1).set hn1).set hn1).set hn1
  have hO2 : Ow ic 1 w5 w.heap.size 2 (.slice B2 l2 k2) r.rides := by
    rw [← hw5]
    exact (((((HO2c.out.lower (Nat.le_trans (Nat.le_of_lt (Nat.lt_of_succ_lt HLT.out)) HB2.out.size)).drewN m4).set hn2).set hn2).set hn2).set hn2
  have hO3 : Ow ic 1 w5 w.heap.size 2 (.slice B3 l3 k3) r.stays := by
    rw [← hw5]
    exact (((((HO3.out.lower (Nat.le_trans (Nat.le_of_lt (Nat.lt_of_succ_lt HLT.out)) HB3.out.size)).drewN m4).set hn3).set hn3).set hn3).set hn3
  have hB5 : Below w.heap.size w w5 := by
    rw [← hw5]
    exact ((((below_drewN (HB1.out.trans (HB4.out.mono HB1.out.size)) m4).setCell (p := ⟨w.heap.size + 1, 0, none⟩) (Nat.le_succ _) _).setCell (p := ⟨w.heap.size + 1, 1, none⟩) (Nat.le_succ _) _).setCell (p := ⟨w.heap.size + 1, 2, none⟩) (Nat.le_succ _) _).setCell (p := ⟨w.heap.size + 1, 3, none⟩) (Nat.le_succ _) _
  have HR5 := Lib.hid hR5
  have HQ1 := Lib.hid hO1
  have HQ2 := Lib.hid hO2
  have HQ3 := Lib.hid hO3
  have HB5 := Lib.hid hB5
  rw [hw5]
  clear hR5 hO1 hO2 hO3 hB5 hw5 hn1 hn2 hn3 x0 x1 x2 x3 f0 f1 f2 f3
  show wpKind _ _ _ _ _ _ _ _ _
  refine wpKind_nil fun m5 => ?_
  go_wp2_with fail
  (try simp only [Exit.inBlock, Exit.then])
  refine bodyPost_ret (results_cell_row rfl _ _ (w.heap.size + 1) _ _ (0, 0) _ rfl (show (w5.drewN m5).heap[w.heap.size + 1]? = _ from HR5.out) Tryz.underlying57 rfl (by kernel_rfl)) rfl ⟨⟨r.name, .slice B1 l1 k1, .slice B2 l2 k2, .slice B3 l3 k3, r.stops, r.rides, r.stays⟩, rfl, rfl, ⟨?_, ?_, ?_⟩, below_drewN HB5.out m5⟩
  · exact ((HQ1.out.drewN m5).sl nc_len).mono fun b hb => hb.2
  · exact ((HQ2.out.drewN m5).sl ic_len).mono fun b hb => hb.2
  · exact ((HQ3.out.drewN m5).sl ic_len).mono fun b hb => hb.2
end Go.Proofs.YteonefgbdphmiaaGreatDoor
