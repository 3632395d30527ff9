/- Walks of the cursor: end, remark. -/
import Derived.Test.YtlclkeihkkpdbaaGreatDoorLe
namespace Go.Proofs.YtlclkeihkkpdbaaGreatDoor
open Go.RowKit
def Cur.go (c : Cur) (p : Nat) : Cur := { c with pos := p }
set_option maxHeartbeats 4000000 in
set_option maxRecDepth 100000 in
theorem end_any (w : World) (B b : Nat) (c : Cur) (h : CurAt B b c w) (hBw : B ≤ w.heap.size) (hc : c.Ok) (ho : c.out.length ≤ 200000) :
    Calls Tryz.prog 61 #[.pointer (some ⟨b, 0, none⟩)] w fun r w' => r = .returned (stepEnd c).1.v ∧ CurAt B b (stepEnd c).2 w' ∧ Below B w w' := by
  have k1 := hc.size
  have k2 := hc.pos
  have k3 := hc.org
  have k4 := hc.line
  have hB := h.1
  have HP := Lib.hid (put_any w B b c h hBw 4 [] 0 0 (by decide) hc ho)
  have hH := h
  obtain ⟨_, v0, hb0, _⟩ := h
  have c5 : w.cell? ⟨b, 5, none⟩ = some (.bool c.some) := Lib.cell_of_heap hb0 5
  rcases hs : c.some
  · rw [hs] at c5
    have hcl : c.close = c := by unfold Cur.close; rw [hs]; rfl
    obtain ⟨d, hd⟩ : ∃ d, c = d := ⟨_, rfl⟩
    have HD := Lib.hid (show CurAt B b d w by rw [← hd]; exact hH)
    have HBv := Lib.hid (Below.refl B w)
    have E := Lib.hid (show stepEnd c = if d.pos = d.s.size then (.none, d) else (.any, d.down) by unfold stepEnd; rw [hcl, hd])
    have l1 : d.pos ≤ 65536 := by rw [← hd]; omega
    have l2 : d.line ≤ 65537 := by rw [← hd]; omega
    clear hb0 hH HP hcl hd
    go_enter Tryz.func61, Tryz.ntmps61
    go_wp2_with fail
    obtain ⟨_, v, hb, hov⟩ := HD.out
    have HB0 := Lib.hid hb
    have HO0 := Lib.hid hov
    have c0 : w.cell? ⟨b, 0, none⟩ = some (.string d.s) := Lib.cell_of_heap hb 0
    have c3 : w.cell? ⟨b, 3, none⟩ = some (.int .i64 d.pos) := Lib.cell_of_heap hb 3
    have g3 : w.frozen? ⟨b, 3, none⟩ = false := Lib.frozen_of_heap hb 3
    have hne0 := ow_ne hov hb (by decide)
    have HNE := Lib.hid hne0
    clear hb hov hne0
    by_cases he : d.pos = d.s.size
    · have he1 : ((d.pos : Int) == (d.s.size : Int)) = true := beq_iff_eq.2 (by omega)
      go_wp2_with fail
      go_quiet (fail)
      go_wp2_with fail
      go_ret
      rw [E.out, if_pos he]
      exact ⟨rfl, HD.out.drewN _, below_drewN HBv.out _⟩
    · have he1 : ((d.pos : Int) == (d.s.size : Int)) = false := beq_eq_false_iff_ne.2 (by omega)
      go_wp2_with fail
      go_quiet (fail)
      go_wp2_with fail
      generalize hw5 : World.setCell _ ⟨b, 3, none⟩ (.int .i64 ((d.pos : Int) + 1)) = w5
      have hb5 : w5.heap[b]? = some (.cells ((d.go (d.pos + 1)).cells v) 98 (0, 0)) := by rw [← hw5]; exact heap_setCell_same _ b 3 _ _ (.int .i64 ((d.pos : Int) + 1)) HB0.out
      have ho5 : Ow tkc 5 w5 B 51 v d.out := by rw [← hw5]; first | exact HO0.out.set HNE.out | exact (HO0.out.drewN _).set HNE.out
      have hB5 : Below B w w5 := by rw [← hw5]; first | exact HBv.out.setCell (p := ⟨b, 3, none⟩) hB _ | exact (below_drewN HBv.out _).setCell (p := ⟨b, 3, none⟩) hB _
      have HB5 := Lib.hid hb5
      have HO5 := Lib.hid ho5
      have HBB5 := Lib.hid hB5
      have hSw := hb5
      clear hw5 hb5 ho5 hB5 c0 c3 g3
      refine wp_region_kinds (fun wy => wy.heap[b]? = some (.cells ((d.go (d.pos + 1)).cells v) 98 (0, 0))) [] [14, 17, 20] [6, 11] [0, 1, 2, 3, 4, 5, 7, 8, 9, 10, 12, 13, 15, 16, 18, 19] [0, 1, 2, 3, 4, 5, 6, 7, 8, 9, 10, 11, 12, 13, 14, 15, 16, 17, 18, 19, 20] (by kernel_rfl) (by kernel_rfl) (fun w n h => h) ?_
      repeat (first | (refine wpKind_free (v := ?_) (by rfl) rfl (by rfl) ?_ ?_; rotate_left 1; (focus (intro wy; go_simp; try with_reducible rfl; done)); try simp only [Act.put, List.setIfInBounds_toArray, List.set_cons_zero, List.set_cons_succ]) | (refine wpKind_held (v := ?_) (by rfl) rfl (by rfl) hSw ?_ ?_; rotate_left 1; (focus (intro wy hSy; have s1 : wy.cell? ⟨b, 1, none⟩ = some (.int .i64 d.line) := Lib.cell_of_heap hSy 1; have s3 : wy.cell? ⟨b, 3, none⟩ = some (.int .i64 ((d.pos + 1 : Nat) : Int)) := Lib.cell_of_heap hSy 3; go_simp; try with_reducible rfl; done)); try simp only [Act.put, List.setIfInBounds_toArray, List.set_cons_zero, List.set_cons_succ]))
      have s14 : w5.cell? ⟨b, 1, none⟩ = some (.int .i64 d.line) := Lib.cell_of_heap HB5.out 1
      have f14 : w5.frozen? ⟨b, 1, none⟩ = false := Lib.frozen_of_heap HB5.out 1
      refine wpKind_serial (by rfl) rfl (fun n1 => ?_)
      go_wp2_with fail
      clear s14 f14
      generalize hw6 : World.setCell _ ⟨b, 1, none⟩ (.int .i64 ((d.line : Int) + 1)) = w6
      have hb6 := heap_setCell_same (w5.drewN n1) b 1 _ _ (.int .i64 ((d.line : Int) + 1)) HB5.out
      have ho6 := (HO5.out.drewN n1).set (i := 1) (u := .int .i64 ((d.line : Int) + 1)) HNE.out
      have hB6 := (below_drewN HBB5.out n1).setCell (p := ⟨b, 1, none⟩) hB (.int .i64 ((d.line : Int) + 1))
      rw [hw6] at hb6 ho6 hB6
      have HB6 := Lib.hid hb6
      have HO6 := Lib.hid ho6
      have HBB6 := Lib.hid hB6
      clear hw6 ho6 hB6 hSw HB5 HO5 HBB5
      show wpKind _ _ _ _ _ _ _ _ _
      repeat (refine wpKind_free (v := ?_) (by rfl) rfl (by rfl) ?_ ?_; rotate_left 1; (focus (intro wy; go_simp; try with_reducible rfl; done)); try simp only [Act.put, List.setIfInBounds_toArray, List.set_cons_zero, List.set_cons_succ])
      have s24 : w6.cell? ⟨b, 2, none⟩ = some (.int .i64 d.org) := Lib.cell_of_heap hb6 2
      have f24 : w6.frozen? ⟨b, 2, none⟩ = false := Lib.frozen_of_heap hb6 2
      clear hb6
      refine wpKind_serial (by rfl) rfl (fun n2 => ?_)
      go_wp2_with fail
      clear s24 f24
      generalize hw7 : World.setCell _ ⟨b, 2, none⟩ (.int .i64 ((d.pos : Int) + 1)) = w7
      have hb7 := heap_setCell_same (w6.drewN n2) b 2 _ _ (.int .i64 ((d.pos : Int) + 1)) HB6.out
      have ho7 := (HO6.out.drewN n2).set (i := 2) (u := .int .i64 ((d.pos : Int) + 1)) HNE.out
      have hB7 := (below_drewN HBB6.out n2).setCell (p := ⟨b, 2, none⟩) hB (.int .i64 ((d.pos : Int) + 1))
      rw [hw7] at hb7 ho7 hB7
      have HB7 := Lib.hid hb7
      have HO7 := Lib.hid ho7
      have HBB7 := Lib.hid hB7
      clear hw7 ho7 hB7 HB6 HO6 HBB6
      show wpKind _ _ _ _ _ _ _ _ _
      repeat (refine wpKind_free (v := ?_) (by rfl) rfl (by rfl) ?_ ?_; rotate_left 1; (focus (intro wy; go_simp; try with_reducible rfl; done)); try simp only [Act.put, List.setIfInBounds_toArray, List.set_cons_zero, List.set_cons_succ])
      have s34 : w7.cell? ⟨b, 5, none⟩ = some (.bool d.some) := Lib.cell_of_heap hb7 5
      have f34 : w7.frozen? ⟨b, 5, none⟩ = false := Lib.frozen_of_heap hb7 5
      clear hb7
      refine wpKind_serial (by rfl) rfl (fun n3 => ?_)
      go_wp2_with fail
      clear s34 f34
      show wpKind _ _ _ _ _ _ _ _ _
      refine wpKind_nil fun n4 => ?_
      go_wp2_with fail
      go_ret
      rw [E.out, if_neg he]
      exact ⟨rfl, ⟨hB, v, heap_setCell_same (w7.drewN n3) b 5 _ _ (.bool false) HB7.out, ((HO7.out.drewN n3).set HNE.out).drewN n4⟩, below_drewN ((below_drewN HBB7.out n3).setCell (p := ⟨b, 5, none⟩) hB _) n4⟩
  · rw [hs] at c5
    have hcl : c.close = c.put 4 [] 0 0 := by unfold Cur.close; rw [hs]; rfl
    obtain ⟨d, hd⟩ : ∃ d, c.put 4 [] 0 0 = d := ⟨_, rfl⟩
    have E := Lib.hid (show stepEnd c = if d.pos = d.s.size then (.none, d) else (.any, d.down) by unfold stepEnd; rw [hcl, ← hd]; rfl)
    have l1 : d.pos ≤ 65536 := by rw [← hd]; show c.pos + 0 ≤ _; omega
    have l2 : d.line ≤ 65537 := by rw [← hd]; show c.line ≤ _; omega
    rw [hd] at HP
    clear hb0 hH hcl hd
    go_enter Tryz.func61, Tryz.ntmps61
    go_wp2_with fail
    refine HP.out.mono ?_
    rintro e wv ⟨rfl, hcv, hbv⟩
    have HD := Lib.hid hcv
    have HBv := Lib.hid hbv
    clear hcv hbv c5
    obtain ⟨_, v, hb, hov⟩ := HD.out
    have HB0 := Lib.hid hb
    have HO0 := Lib.hid hov
    have c0 : wv.cell? ⟨b, 0, none⟩ = some (.string d.s) := Lib.cell_of_heap hb 0
    have c3 : wv.cell? ⟨b, 3, none⟩ = some (.int .i64 d.pos) := Lib.cell_of_heap hb 3
    have g3 : wv.frozen? ⟨b, 3, none⟩ = false := Lib.frozen_of_heap hb 3
    have hne0 := ow_ne hov hb (by decide)
    have HNE := Lib.hid hne0
    clear hb hov hne0
    by_cases he : d.pos = d.s.size
    · have he1 : ((d.pos : Int) == (d.s.size : Int)) = true := beq_iff_eq.2 (by omega)
      go_wp2_with fail
      go_quiet (fail)
      go_wp2_with fail
      go_ret
      rw [E.out, if_pos he]
      exact ⟨rfl, HD.out.drewN _, below_drewN HBv.out _⟩
    · have he1 : ((d.pos : Int) == (d.s.size : Int)) = false := beq_eq_false_iff_ne.2 (by omega)
      go_wp2_with fail
      go_quiet (fail)
      go_wp2_with fail
      generalize hw5 : World.setCell _ ⟨b, 3, none⟩ (.int .i64 ((d.pos : Int) + 1)) = w5
      have hb5 : w5.heap[b]? = some (.cells ((d.go (d.pos + 1)).cells v) 98 (0, 0)) := by rw [← hw5]; exact heap_setCell_same _ b 3 _ _ (.int .i64 ((d.pos : Int) + 1)) HB0.out
      have ho5 : Ow tkc 5 w5 B 51 v d.out := by rw [← hw5]; first | exact HO0.out.set HNE.out | exact (HO0.out.drewN _).set HNE.out
      have hB5 : Below B w w5 := by rw [← hw5]; first | exact HBv.out.setCell (p := ⟨b, 3, none⟩) hB _ | exact (below_drewN HBv.out _).setCell (p := ⟨b, 3, none⟩) hB _
      have HB5 := Lib.hid hb5
      have HO5 := Lib.hid ho5
      have HBB5 := Lib.hid hB5
      have hSw := hb5
      clear hw5 hb5 ho5 hB5 c0 c3 g3
      refine wp_region_kinds (fun wy => wy.heap[b]? = some (.cells ((d.go (d.pos + 1)).cells v) 98 (0, 0))) [] [14, 17, 20] [6, 11] [0, 1, 2, 3, 4, 5, 7, 8, 9, 10, 12, 13, 15, 16, 18, 19] [0, 1, 2, 3, 4, 5, 6, 7, 8, 9, 10, 11, 12, 13, 14, 15, 16, 17, 18, 19, 20] (by kernel_rfl) (by kernel_rfl) (fun w n h => h) ?_
      repeat (first | (refine wpKind_free (v := ?_) (by rfl) rfl (by rfl) ?_ ?_; rotate_left 1; (focus (intro wy; go_simp; try with_reducible rfl; done)); try simp only [Act.put, List.setIfInBounds_toArray, List.set_cons_zero, List.set_cons_succ]) | (refine wpKind_held (v := ?_) (by rfl) rfl (by rfl) hSw ?_ ?_; rotate_left 1; (focus (intro wy hSy; have s1 : wy.cell? ⟨b, 1, none⟩ = some (.int .i64 d.line) := Lib.cell_of_heap hSy 1; have s3 : wy.cell? ⟨b, 3, none⟩ = some (.int .i64 ((d.pos + 1 : Nat) : Int)) := Lib.cell_of_heap hSy 3; go_simp; try with_reducible rfl; done)); try simp only [Act.put, List.setIfInBounds_toArray, List.set_cons_zero, List.set_cons_succ]))
      have s14 : w5.cell? ⟨b, 1, none⟩ = some (.int .i64 d.line) := Lib.cell_of_heap HB5.out 1
      have f14 : w5.frozen? ⟨b, 1, none⟩ = false := Lib.frozen_of_heap HB5.out 1
      refine wpKind_serial (by rfl) rfl (fun n1 => ?_)
      go_wp2_with fail
      clear s14 f14
      generalize hw6 : World.setCell _ ⟨b, 1, none⟩ (.int .i64 ((d.line : Int) + 1)) = w6
      have hb6 := heap_setCell_same (w5.drewN n1) b 1 _ _ (.int .i64 ((d.line : Int) + 1)) HB5.out
      have ho6 := (HO5.out.drewN n1).set (i := 1) (u := .int .i64 ((d.line : Int) + 1)) HNE.out
      have hB6 := (below_drewN HBB5.out n1).setCell (p := ⟨b, 1, none⟩) hB (.int .i64 ((d.line : Int) + 1))
      rw [hw6] at hb6 ho6 hB6
      have HB6 := Lib.hid hb6
      have HO6 := Lib.hid ho6
      have HBB6 := Lib.hid hB6
      clear hw6 ho6 hB6 hSw HB5 HO5 HBB5
      show wpKind _ _ _ _ _ _ _ _ _
      repeat (refine wpKind_free (v := ?_) (by rfl) rfl (by rfl) ?_ ?_; rotate_left 1; (focus (intro wy; go_simp; try with_reducible rfl; done)); try simp only [Act.put, List.setIfInBounds_toArray, List.set_cons_zero, List.set_cons_succ])
      have s24 : w6.cell? ⟨b, 2, none⟩ = some (.int .i64 d.org) := Lib.cell_of_heap hb6 2
      have f24 : w6.frozen? ⟨b, 2, none⟩ = false := Lib.frozen_of_heap hb6 2
      clear hb6
      refine wpKind_serial (by rfl) rfl (fun n2 => ?_)
      go_wp2_with fail
      clear s24 f24
      generalize hw7 : World.setCell _ ⟨b, 2, none⟩ (.int .i64 ((d.pos : Int) + 1)) = w7
      have hb7 := heap_setCell_same (w6.drewN n2) b 2 _ _ (.int .i64 ((d.pos : Int) + 1)) HB6.out
      have ho7 := (HO6.out.drewN n2).set (i := 2) (u := .int .i64 ((d.pos : Int) + 1)) HNE.out
      have hB7 := (below_drewN HBB6.out n2).setCell (p := ⟨b, 2, none⟩) hB (.int .i64 ((d.pos : Int) + 1))
      rw [hw7] at hb7 ho7 hB7
      have HB7 := Lib.hid hb7
      have HO7 := Lib.hid ho7
      have HBB7 := Lib.hid hB7
      clear hw7 ho7 hB7 HB6 HO6 HBB6
      show wpKind _ _ _ _ _ _ _ _ _
      repeat (refine wpKind_free (v := ?_) (by rfl) rfl (by rfl) ?_ ?_; rotate_left 1; (focus (intro wy; go_simp; try with_reducible rfl; done)); try simp only [Act.put, List.setIfInBounds_toArray, List.set_cons_zero, List.set_cons_succ])
      have s34 : w7.cell? ⟨b, 5, none⟩ = some (.bool d.some) := Lib.cell_of_heap hb7 5
      have f34 : w7.frozen? ⟨b, 5, none⟩ = false := Lib.frozen_of_heap hb7 5
      clear hb7
      refine wpKind_serial (by rfl) rfl (fun n3 => ?_)
      go_wp2_with fail
      clear s34 f34
      show wpKind _ _ _ _ _ _ _ _ _
      refine wpKind_nil fun n4 => ?_
      go_wp2_with fail
      go_ret
      rw [E.out, if_neg he]
      exact ⟨rfl, ⟨hB, v, heap_setCell_same (w7.drewN n3) b 5 _ _ (.bool false) HB7.out, ((HO7.out.drewN n3).set HNE.out).drewN n4⟩, below_drewN ((below_drewN HBB7.out n3).setCell (p := ⟨b, 5, none⟩) hB _) n4⟩
end Go.Proofs.YtlclkeihkkpdbaaGreatDoor
