/- change.All. -/
import Derived.Test.YtlclkeihkkpdbaaGreatDoorUk
namespace Go.Proofs.YtlclkeihkkpdbaaGreatDoor
open Go.RowKit
set_option maxHeartbeats 4000000 in
set_option maxRecDepth 100000 in
theorem chall_any (s : ByteArray) (w : World) (hs : s.size ≤ 65536) (hT : Tabs w) (hL : LibOk w) :
    Calls Tryz.prog 5 #[.string s] w fun e w' => ∃ vo, e = .returned (.tuple #[vo, .agg #[.int .i64 (readU s).err, .int .i64 (readU s).line, .int .i64 (readU s).col]]) ∧ Ow upc 8 w' w.heap.size 25 vo (readU s).us ∧ Below w.heap.size w w' := by
  have HP := Lib.hid (fun w' (hb : Below w.heap.size w w') => read_any s w' hs (hT.below hb) (hL.below hb))
  clear hT hL
  go_enter Tryz.func5, Tryz.ntmps5
  go_wp2_with fail
  obtain ⟨w1, hw1⟩ : ∃ w1, w.alloc (.cells #[.int .i64 0, .int .i64 0, .int .i64 0] 30) = w1 := ⟨_, rfl⟩
  have hb1 : Below w.heap.size w w1 := by rw [← hw1]; exact (Below.refl _ _).alloc (Nat.le_refl _) _
  have hz1 : w1.heap.size = w.heap.size + 1 := by rw [← hw1]; simp
  have hq1 : w1.heap[w.heap.size]? = some (.cells #[.int .i64 0, .int .i64 0, .int .i64 0] 30 (0, 0)) := by rw [← hw1]; exact heap_alloc_new _ _
  rw [hw1]
  refine (HP.out w1 hb1).mono ?_
  rintro e w2 ⟨vo, vb, rfl, ho, hb, hbl⟩
  have HO := Lib.hid ho
  have hb2 := hb1.trans (hbl.mono (by omega))
  have hq2 := (hbl.block w.heap.size (by omega)).trans hq1
  have hz2 : w.heap.size + 1 ≤ w2.heap.size := by have := hbl.size; omega
  have HB2 := Lib.hid hb2
  have HQ2 := Lib.hid hq2
  clear ho hb hbl HP hw1 hb1 hq1 hb2 hq2
  obtain ⟨fe, h1⟩ : ∃ x, (readU s).err = x := ⟨_, rfl⟩
  obtain ⟨fl, h2⟩ : ∃ x, (readU s).line = x := ⟨_, rfl⟩
  obtain ⟨fc, h3⟩ : ∃ x, (readU s).col = x := ⟨_, rfl⟩
  rw [h1, h2, h3]
  have HE := Lib.hid (And.intro h1 (And.intro h2 h3))
  clear h1 h2 h3
  go_upto_region 2 with fail
  obtain ⟨w3, hw3⟩ : ∃ w3, w2.alloc (.cells #[.int .i64 fe, .int .i64 fl, .int .i64 fc] 30) = w3 := ⟨_, rfl⟩
  have hf3 : w3.heap[w2.heap.size]? = some (.cells #[.int .i64 fe, .int .i64 fl, .int .i64 fc] 30 (0, 0)) := by rw [← hw3]; exact heap_alloc_new _ _
  have hq3 : w3.heap[w.heap.size]? = some (.cells #[.int .i64 0, .int .i64 0, .int .i64 0] 30 (0, 0)) := by rw [← hw3, Below.heap_alloc _ _ _ (by omega)]; exact HQ2.out
  have HO3 := Lib.hid (show Ow upc 8 w3 w1.heap.size 25 vo (readU s).us by rw [← hw3]; exact HO.out.alloc _)
  have HB3 := Lib.hid (show Below w.heap.size w w3 by rw [← hw3]; exact HB2.out.alloc (by omega) _)
  have HQ3 := Lib.hid hq3
  have hSw : (fun wy : World => wy.cell? ⟨w2.heap.size, 0, none⟩ = some (.int .i64 fe) ∧ wy.cell? ⟨w2.heap.size, 1, none⟩ = some (.int .i64 fl) ∧ wy.cell? ⟨w2.heap.size, 2, none⟩ = some (.int .i64 fc)) w3 := ⟨Lib.cell_of_heap hf3 0, Lib.cell_of_heap hf3 1, Lib.cell_of_heap hf3 2⟩
  rw [hw3]
  clear hw3 hf3 hq3 HO HB2 HQ2
  dsimp only at hSw
  go_wp2_with fail
  refine wp_region_kinds (fun wy : World => wy.cell? ⟨w2.heap.size, 0, none⟩ = some (.int .i64 fe) ∧ wy.cell? ⟨w2.heap.size, 1, none⟩ = some (.int .i64 fl) ∧ wy.cell? ⟨w2.heap.size, 2, none⟩ = some (.int .i64 fc)) [] [3] [1] [0, 2] [0, 1, 2, 3] (by kernel_rfl) (by kernel_rfl) (fun w n h => h) ?_
  repeat (first | (refine wpKind_free (v := ?_) (by rfl) rfl (by rfl) ?_ ?_; rotate_left 1; (focus (intro wy; go_simp; try with_reducible rfl; done)); try simp only [Act.put, List.setIfInBounds_toArray, List.set_cons_zero, List.set_cons_succ]) | (refine wpKind_held (v := ?_) (by rfl) rfl (by rfl) hSw ?_ ?_; rotate_left 1; (focus (intro wy hSy; obtain ⟨s0, s1, s2⟩ := hSy; go_simp; try with_reducible rfl; done)); try simp only [Act.put, List.setIfInBounds_toArray, List.set_cons_zero, List.set_cons_succ]))
  clear hSw
  refine wpKind_serial (by rfl) rfl (fun n1 => ?_)
  obtain ⟨wa, hwa⟩ : ∃ wa, w3.drewN n1 = wa := ⟨_, rfl⟩
  have hqa : wa.heap[w.heap.size]? = some (.cells #[.int .i64 0, .int .i64 0, .int .i64 0] 30 (0, 0)) := by rw [← hwa]; exact HQ3.out
  have HA := Lib.hid (set3 (.int .i64 fe) (.int .i64 fl) (.int .i64 fc) hqa (by rw [← hwa]; exact below_drewN HB3.out n1) (Nat.le_refl _))
  have HOa := Lib.hid (show Ow upc 8 wa w1.heap.size 25 vo (readU s).us by rw [← hwa]; exact HO3.out.drewN n1)
  have g0 : wa.frozen? ⟨w.heap.size, 0, none⟩ = false := Lib.frozen_of_heap hqa 0
  have g1 : wa.frozen? ⟨w.heap.size, 1, none⟩ = false := Lib.frozen_of_heap hqa 1
  have g2 : wa.frozen? ⟨w.heap.size, 2, none⟩ = false := Lib.frozen_of_heap hqa 2
  have x0 : wa.cell? ⟨w.heap.size, 0, none⟩ = some (.int .i64 0) := Lib.cell_of_heap hqa 0
  have x1 : wa.cell? ⟨w.heap.size, 1, none⟩ = some (.int .i64 0) := Lib.cell_of_heap hqa 1
  have x2 : wa.cell? ⟨w.heap.size, 2, none⟩ = some (.int .i64 0) := Lib.cell_of_heap hqa 2
  rw [hwa]
  clear hwa hqa
  go_wp2_with fail
  show wpKind _ _ _ _ _ _ _ _ _
  refine wpKind_nil fun n2 => ?_
  obtain ⟨wE, hwE⟩ : ∃ wE, ((wa.setCell ⟨w.heap.size, 0, none⟩ (.int .i64 fe)).setCell ⟨w.heap.size, 1, none⟩ (.int .i64 fl)).setCell ⟨w.heap.size, 2, none⟩ (.int .i64 fc) = wE := ⟨_, rfl⟩
  obtain ⟨hE1, hE3, hE2⟩ := HA.out
  rw [hwE] at hE1 hE2 hE3 ⊢
  go_wp2_with fail
  refine bodyPost_ret (results_tc rfl _ _ w.heap.size _ _ (0, 0) _ rfl (show (wE.drewN n2).heap[w.heap.size]? = _ from hE1) Tryz.underlying30 rfl (by kernel_rfl)) rfl ⟨vo, ?_, ?_, below_drewN hE2 n2⟩
  · rw [HE.out.1, HE.out.2.1, HE.out.2.2]; rfl
  · exact ((HOa.out.keepB (fun c hc hc2 => hE3 c (by omega))).lower (by omega)).drewN n2
end Go.Proofs.YtlclkeihkkpdbaaGreatDoor
/- change.Parse. -/
namespace Go.Proofs.YtlclkeihkkpdbaaGreatDoor
open Go.RowKit
theorem readL_len : ∀ gs : List (List TokD), (readL gs).bs.length = (readL gs).us.length := by
  intro gs
  induction gs with
  | nil => rfl
  | cons g gs ih =>
    unfold readL
    split
    · rfl
    · split
      · rfl
      · simp [ih]
theorem readU_len (s : ByteArray) : (readU s).bs.length = (readU s).us.length := by
  unfold readU
  split
  · rfl
  · exact readL_len _
/-- What is read of a text as one update. -/
def parseU (s : ByteArray) : UpD × Int × Int × Int :=
  if (readU s).err ≠ 0 then (zeroU, (readU s).err, (readU s).line, (readU s).col)
  else if (readU s).us.length = 0 then (zeroU, 7, 1, 1)
  else if 1 < (readU s).us.length then (zeroU, 7, ((readU s).bs.getD 1 ⟨0, [], 0, 0, 0⟩).line, ((readU s).bs.getD 1 ⟨0, [], 0, 0, 0⟩).col)
  else ((readU s).us.headD zeroU, 0, 0, 0)
/-- Eight cells of a block written. -/
theorem set8 {w w0 : World} {h B : Nat} {x0 x1 x2 x3 x4 x5 x6 x7 : Value} {t : TypeId} (v0 v1 v2 v3 v4 v5 v6 v7 : Value) (hf : w.heap[h]? = some (.cells #[x0, x1, x2, x3, x4, x5, x6, x7] t (0, 0))) (hb : Below B w0 w) (hB : B ≤ h) :
    ((((((((w.setCell ⟨h, 0, none⟩ v0).setCell ⟨h, 1, none⟩ v1).setCell ⟨h, 2, none⟩ v2).setCell ⟨h, 3, none⟩ v3).setCell ⟨h, 4, none⟩ v4).setCell ⟨h, 5, none⟩ v5).setCell ⟨h, 6, none⟩ v6).setCell ⟨h, 7, none⟩ v7).heap[h]? = some (.cells #[v0, v1, v2, v3, v4, v5, v6, v7] t (0, 0)) ∧ (∀ c, c ≠ h → ((((((((w.setCell ⟨h, 0, none⟩ v0).setCell ⟨h, 1, none⟩ v1).setCell ⟨h, 2, none⟩ v2).setCell ⟨h, 3, none⟩ v3).setCell ⟨h, 4, none⟩ v4).setCell ⟨h, 5, none⟩ v5).setCell ⟨h, 6, none⟩ v6).setCell ⟨h, 7, none⟩ v7).heap[c]? = w.heap[c]?) ∧ Below B w0 ((((((((w.setCell ⟨h, 0, none⟩ v0).setCell ⟨h, 1, none⟩ v1).setCell ⟨h, 2, none⟩ v2).setCell ⟨h, 3, none⟩ v3).setCell ⟨h, 4, none⟩ v4).setCell ⟨h, 5, none⟩ v5).setCell ⟨h, 6, none⟩ v6).setCell ⟨h, 7, none⟩ v7) := by
  have c0 := heap_setCell_same _ h 0 _ _ v0 hf
  simp only [List.setIfInBounds_toArray, List.set_cons_zero] at c0
  have c1 := heap_setCell_same _ h 1 _ _ v1 c0
  simp only [List.setIfInBounds_toArray, List.set_cons_zero, List.set_cons_succ] at c1
  have c2 := heap_setCell_same _ h 2 _ _ v2 c1
  simp only [List.setIfInBounds_toArray, List.set_cons_zero, List.set_cons_succ] at c2
  have c3 := heap_setCell_same _ h 3 _ _ v3 c2
  simp only [List.setIfInBounds_toArray, List.set_cons_zero, List.set_cons_succ] at c3
  have c4 := heap_setCell_same _ h 4 _ _ v4 c3
  simp only [List.setIfInBounds_toArray, List.set_cons_zero, List.set_cons_succ] at c4
  have c5 := heap_setCell_same _ h 5 _ _ v5 c4
  simp only [List.setIfInBounds_toArray, List.set_cons_zero, List.set_cons_succ] at c5
  have c6 := heap_setCell_same _ h 6 _ _ v6 c5
  simp only [List.setIfInBounds_toArray, List.set_cons_zero, List.set_cons_succ] at c6
  have c7 := heap_setCell_same _ h 7 _ _ v7 c6
  simp only [List.setIfInBounds_toArray, List.set_cons_zero, List.set_cons_succ] at c7
  exact ⟨c7, fun c hc => by repeat rw [Below.heap_setCell _ _ _ _ (by show c ≠ h; exact hc)], ((((((((hb.setCell (p := ⟨h, 0, none⟩) hB v0).setCell (p := ⟨h, 1, none⟩) hB v1).setCell (p := ⟨h, 2, none⟩) hB v2).setCell (p := ⟨h, 3, none⟩) hB v3).setCell (p := ⟨h, 4, none⟩) hB v4).setCell (p := ⟨h, 5, none⟩) hB v5).setCell (p := ⟨h, 6, none⟩) hB v6).setCell (p := ⟨h, 7, none⟩) hB v7)⟩
set_option maxHeartbeats 4000000 in
set_option maxRecDepth 100000 in
theorem chparse_any (s : ByteArray) (w : World) (hs : s.size ≤ 65536) (hT : Tabs w) (hL : LibOk w) :
    Calls Tryz.prog 7 #[.string s] w fun e w' => e = .returned (.tuple #[.agg (upc (parseU s).1).toArray, .agg #[.int .i64 (parseU s).2.1, .int .i64 (parseU s).2.2.1, .int .i64 (parseU s).2.2.2]]) ∧ Below w.heap.size w w' := by
  have hlen := readU_len s
  have hPU : parseU s = if (readU s).err ≠ 0 then (zeroU, (readU s).err, (readU s).line, (readU s).col)
    else if (readU s).us.length = 0 then (zeroU, 7, 1, 1)
    else if 1 < (readU s).us.length then (zeroU, 7, ((readU s).bs.getD 1 ⟨0, [], 0, 0, 0⟩).line, ((readU s).bs.getD 1 ⟨0, [], 0, 0, 0⟩).col)
    else ((readU s).us.headD zeroU, 0, 0, 0) := rfl
  have HP := Lib.hid (fun w' (hb : Below w.heap.size w w') => read_any s w' hs (hT.below hb) (hL.below hb))
  clear hT hL
  go_enter Tryz.func7, Tryz.ntmps7
  go_wp2_with fail
  obtain ⟨w1, hw1⟩ : ∃ w1, (w.alloc (.cells #[.int .i64 0, .string ⟨#[]⟩, .int .i64 0, .int .i64 0, .int .i64 0, .int .i64 0, .int .i64 0, .int .i64 0] 25)).alloc (.cells #[.int .i64 0, .int .i64 0, .int .i64 0] 30) = w1 := ⟨_, rfl⟩
  have hb1 : Below w.heap.size w w1 := by rw [← hw1]; exact ((Below.refl _ _).alloc (Nat.le_refl _) _).alloc (by simp) _
  have hz1 : w1.heap.size = w.heap.size + 2 := by rw [← hw1]; simp
  have HF1 := Lib.hid (show w1.heap[w.heap.size + 1]? = some (.cells #[.int .i64 0, .int .i64 0, .int .i64 0] 30 (0, 0)) by rw [← hw1]; exact alloc2_new _ _ _)
  have HR1 := Lib.hid (show w1.heap[w.heap.size]? = some (.cells #[.int .i64 0, .string ⟨#[]⟩, .int .i64 0, .int .i64 0, .int .i64 0, .int .i64 0, .int .i64 0, .int .i64 0] 25 (0, 0)) by rw [← hw1, Below.heap_alloc _ _ _ (by simp)]; exact heap_alloc_new _ _)
  have hrd := HP.out w1 hb1
  have HB1 := Lib.hid hb1
  rw [hw1]
  clear hw1 HP hb1
  refine hrd.mono ?_
  clear hrd
  rintro e w2 ⟨vo, vb, rfl, ho, hbb, hbl⟩
  have hz2 : w.heap.size + 2 ≤ w2.heap.size := by have := hbl.size; omega
  rw [hz1] at hbl
  obtain ⟨us, h0⟩ : ∃ x, (readU s).us = x := ⟨_, rfl⟩
  obtain ⟨bs, h4⟩ : ∃ x, (readU s).bs = x := ⟨_, rfl⟩
  obtain ⟨fe, h1⟩ : ∃ x, (readU s).err = x := ⟨_, rfl⟩
  obtain ⟨fl, h2⟩ : ∃ x, (readU s).line = x := ⟨_, rfl⟩
  obtain ⟨fc, h3⟩ : ∃ x, (readU s).col = x := ⟨_, rfl⟩
  rw [h0, h1, h2, h3, h4] at hPU
  rw [h0, h4] at hlen
  rw [h0] at ho
  rw [h4] at hbb
  rw [h1, h2, h3]
  have HPU := Lib.hid hPU
  obtain ⟨Ao, co, rfl, _, _⟩ := ho.shape
  obtain ⟨Ab, cb, rfl, _, _⟩ := hbb.shape
  have HO := Lib.hid (ho.sl upc_len)
  have HBB := Lib.hid (hbb.sl tkc_len)
  have HBL := Lib.hid hbl
  clear h0 h1 h2 h3 h4 hPU ho hbb hbl
  go_upto_region 2 with fail
  obtain ⟨wz, hwz⟩ : ∃ wz, w2.alloc (.cells #[.int .i64 fe, .int .i64 fl, .int .i64 fc] 30) = wz := ⟨_, rfl⟩
  have hf3 : wz.heap[w2.heap.size]? = some (.cells #[.int .i64 fe, .int .i64 fl, .int .i64 fc] 30 (0, 0)) := by rw [← hwz]; exact heap_alloc_new _ _
  have hbz : Below (w.heap.size + 2) w1 wz := by rw [← hwz]; exact HBL.out.alloc (by omega) _
  have HBZ := Lib.hid hbz
  have HOz := Lib.hid (HO.out.below_ (show Below w2.heap.size w2 wz by rw [← hwz]; exact (Below.refl _ _).alloc (Nat.le_refl _) _))
  have HBz := Lib.hid (HBB.out.below_ (show Below w2.heap.size w2 wz by rw [← hwz]; exact (Below.refl _ _).alloc (Nat.le_refl _) _))
  have BZ := Lib.hid (HB1.out.trans (hbz.mono (Nat.le_add_right _ _)))
  have k0 : wz.cell? ⟨w2.heap.size, 0, none⟩ = some (.int .i64 fe) := Lib.cell_of_heap hf3 0
  rw [hwz]
  clear hwz HBL
  by_cases he : fe = 0
  · have e0 : (fe == 0) = true := beq_iff_eq.2 he
    have e1 : (fe != 0) = false := by rw [bne, e0]; rfl
    by_cases hn : us.length = 0
    · have q0 : ((us.length : Int) == 0) = true := beq_iff_eq.2 (by omega)
      have HE := Lib.hid (show parseU s = (zeroU, 7, 1, 1) by rw [HPU.out, if_neg (fun h => h he), if_pos hn])
      clear HPU he hn hf3
      have rr := (hbz.block w.heap.size (by omega)).trans HR1.out
      have rf := (hbz.block (w.heap.size + 1) (by omega)).trans HF1.out
      have u0 : wz.cell? ⟨w.heap.size, 0, none⟩ = some (.int .i64 0) := Lib.cell_of_heap rr 0
      have g0 : wz.frozen? ⟨w.heap.size, 0, none⟩ = false := Lib.frozen_of_heap rr 0
      have u1 : wz.cell? ⟨w.heap.size, 1, none⟩ = some (.string ⟨#[]⟩) := Lib.cell_of_heap rr 1
      have g1 : wz.frozen? ⟨w.heap.size, 1, none⟩ = false := Lib.frozen_of_heap rr 1
      have u2 : wz.cell? ⟨w.heap.size, 2, none⟩ = some (.int .i64 0) := Lib.cell_of_heap rr 2
      have g2 : wz.frozen? ⟨w.heap.size, 2, none⟩ = false := Lib.frozen_of_heap rr 2
      have u3 : wz.cell? ⟨w.heap.size, 3, none⟩ = some (.int .i64 0) := Lib.cell_of_heap rr 3
      have g3 : wz.frozen? ⟨w.heap.size, 3, none⟩ = false := Lib.frozen_of_heap rr 3
      have u4 : wz.cell? ⟨w.heap.size, 4, none⟩ = some (.int .i64 0) := Lib.cell_of_heap rr 4
      have g4 : wz.frozen? ⟨w.heap.size, 4, none⟩ = false := Lib.frozen_of_heap rr 4
      have u5 : wz.cell? ⟨w.heap.size, 5, none⟩ = some (.int .i64 0) := Lib.cell_of_heap rr 5
      have g5 : wz.frozen? ⟨w.heap.size, 5, none⟩ = false := Lib.frozen_of_heap rr 5
      have u6 : wz.cell? ⟨w.heap.size, 6, none⟩ = some (.int .i64 0) := Lib.cell_of_heap rr 6
      have g6 : wz.frozen? ⟨w.heap.size, 6, none⟩ = false := Lib.frozen_of_heap rr 6
      have u7 : wz.cell? ⟨w.heap.size, 7, none⟩ = some (.int .i64 0) := Lib.cell_of_heap rr 7
      have g7 : wz.frozen? ⟨w.heap.size, 7, none⟩ = false := Lib.frozen_of_heap rr 7
      have m0 : wz.cell? ⟨w.heap.size + 1, 0, none⟩ = some (.int .i64 0) := Lib.cell_of_heap rf 0
      have o0 : wz.frozen? ⟨w.heap.size + 1, 0, none⟩ = false := Lib.frozen_of_heap rf 0
      have m1 : wz.cell? ⟨w.heap.size + 1, 1, none⟩ = some (.int .i64 0) := Lib.cell_of_heap rf 1
      have o1 : wz.frozen? ⟨w.heap.size + 1, 1, none⟩ = false := Lib.frozen_of_heap rf 1
      have m2 : wz.cell? ⟨w.heap.size + 1, 2, none⟩ = some (.int .i64 0) := Lib.cell_of_heap rf 2
      have o2 : wz.frozen? ⟨w.heap.size + 1, 2, none⟩ = false := Lib.frozen_of_heap rf 2
      have RR := Lib.hid rr
      have RF := Lib.hid rf
      clear rr rf
      clear hbz
      go_wp2_with fail
      clear u0 u1 u2 u3 u4 u5 u6 u7 g0 g1 g2 g3 g4 g5 g6 g7 m0 m1 m2 o0 o1 o2
      obtain ⟨ra, rb, rc⟩ := res_put _ _ _ _ _ _ _ _ _ _ _ RR.out RF.out BZ.out (Nat.le_refl w.heap.size)
      refine bodyPost_ret (results_cc rfl _ _ w.heap.size (w.heap.size + 1) _ _ _ _ (0, 0) (0, 0) _ _ rfl ra Tryz.underlying25 rfl (by kernel_rfl) rfl rb Tryz.underlying30 rfl (by kernel_rfl)) rfl ⟨?_, rc⟩
      rw [HE.out]; rfl
    · have q0 : ((us.length : Int) == 0) = false := beq_eq_false_iff_ne.2 (by omega)
      by_cases hm : 1 < us.length
      · have q1 : (1 : Int) < (us.length : Int) := by omega
        have HE := Lib.hid (show parseU s = (zeroU, 7, (bs.getD 1 ⟨0, [], 0, 0, 0⟩).line, (bs.getD 1 ⟨0, [], 0, 0, 0⟩).col) by rw [HPU.out, if_neg (fun h => h he), if_neg hn, if_pos hm])
        clear HPU he hn hf3
        obtain ⟨b1, o1, c1, e9, _, _, _, _, hx⟩ := HBz.out.at_ (show 1 < bs.length by omega)
        have ea := (Value.slice.inj e9).1
        subst ea
        obtain ⟨y, hy⟩ : ∃ y, bs[1]'(by omega) = y := ⟨_, rfl⟩
        have HY := Lib.hid (show bs.getD 1 ⟨0, [], 0, 0, 0⟩ = y by rw [← hy]; simp [List.getD, List.getElem?_eq_getElem (show 1 < bs.length by omega)])
        rw [hy] at hx
        have z0 : wz.cell? ⟨b1, o1 + 5, none⟩ = some (.int .i64 y.kind) := by simpa using hx 0 _ rfl
        have z1 : wz.cell? ⟨b1, o1 + 5 + 1, none⟩ = some (.string (ba y.text)) := by simpa using hx 1 _ rfl
        have z2 : wz.cell? ⟨b1, o1 + 5 + 2, none⟩ = some (.int .i64 y.num) := by simpa using hx 2 _ rfl
        have z3 : wz.cell? ⟨b1, o1 + 5 + 3, none⟩ = some (.int .i64 y.line) := by simpa using hx 3 _ rfl
        have z4 : wz.cell? ⟨b1, o1 + 5 + 4, none⟩ = some (.int .i64 y.col) := by simpa using hx 4 _ rfl
        have q2 : (1 : Int) < (bs.length : Int) := by omega
        clear e9 hx hy hbz
        go_wp2_with fail
        clear z0 z1 z2 z3 z4 k0
        have hat := at_any y wz
        refine hat.mono ?_
        clear hat
        rintro e wz ⟨rfl, hby⟩
        have hbz := HBZ.out.trans (hby.mono (by have := HBZ.out.size; omega))
        have BZ := Lib.hid (HB1.out.trans (hbz.mono (Nat.le_add_right _ _)))
        have rr := (hbz.block w.heap.size (by omega)).trans HR1.out
        have rf := (hbz.block (w.heap.size + 1) (by omega)).trans HF1.out
        have u0 : wz.cell? ⟨w.heap.size, 0, none⟩ = some (.int .i64 0) := Lib.cell_of_heap rr 0
        have g0 : wz.frozen? ⟨w.heap.size, 0, none⟩ = false := Lib.frozen_of_heap rr 0
        have u1 : wz.cell? ⟨w.heap.size, 1, none⟩ = some (.string ⟨#[]⟩) := Lib.cell_of_heap rr 1
        have g1 : wz.frozen? ⟨w.heap.size, 1, none⟩ = false := Lib.frozen_of_heap rr 1
        have u2 : wz.cell? ⟨w.heap.size, 2, none⟩ = some (.int .i64 0) := Lib.cell_of_heap rr 2
        have g2 : wz.frozen? ⟨w.heap.size, 2, none⟩ = false := Lib.frozen_of_heap rr 2
        have u3 : wz.cell? ⟨w.heap.size, 3, none⟩ = some (.int .i64 0) := Lib.cell_of_heap rr 3
        have g3 : wz.frozen? ⟨w.heap.size, 3, none⟩ = false := Lib.frozen_of_heap rr 3
        have u4 : wz.cell? ⟨w.heap.size, 4, none⟩ = some (.int .i64 0) := Lib.cell_of_heap rr 4
        have g4 : wz.frozen? ⟨w.heap.size, 4, none⟩ = false := Lib.frozen_of_heap rr 4
        have u5 : wz.cell? ⟨w.heap.size, 5, none⟩ = some (.int .i64 0) := Lib.cell_of_heap rr 5
        have g5 : wz.frozen? ⟨w.heap.size, 5, none⟩ = false := Lib.frozen_of_heap rr 5
        have u6 : wz.cell? ⟨w.heap.size, 6, none⟩ = some (.int .i64 0) := Lib.cell_of_heap rr 6
        have g6 : wz.frozen? ⟨w.heap.size, 6, none⟩ = false := Lib.frozen_of_heap rr 6
        have u7 : wz.cell? ⟨w.heap.size, 7, none⟩ = some (.int .i64 0) := Lib.cell_of_heap rr 7
        have g7 : wz.frozen? ⟨w.heap.size, 7, none⟩ = false := Lib.frozen_of_heap rr 7
        have m0 : wz.cell? ⟨w.heap.size + 1, 0, none⟩ = some (.int .i64 0) := Lib.cell_of_heap rf 0
        have o0 : wz.frozen? ⟨w.heap.size + 1, 0, none⟩ = false := Lib.frozen_of_heap rf 0
        have m1 : wz.cell? ⟨w.heap.size + 1, 1, none⟩ = some (.int .i64 0) := Lib.cell_of_heap rf 1
        have o1 : wz.frozen? ⟨w.heap.size + 1, 1, none⟩ = false := Lib.frozen_of_heap rf 1
        have m2 : wz.cell? ⟨w.heap.size + 1, 2, none⟩ = some (.int .i64 0) := Lib.cell_of_heap rf 2
        have o2 : wz.frozen? ⟨w.heap.size + 1, 2, none⟩ = false := Lib.frozen_of_heap rf 2
        have RR := Lib.hid rr
        have RF := Lib.hid rf
        clear rr rf
        clear hbz
        go_wp2_with fail
        clear u0 u1 u2 u3 u4 u5 u6 u7 g0 g1 g2 g3 g4 g5 g6 g7 m0 m1 m2 o0 o1 o2
        obtain ⟨ra, rb, rc⟩ := res_put _ _ _ _ _ _ _ _ _ _ _ RR.out RF.out BZ.out (Nat.le_refl w.heap.size)
        refine bodyPost_ret (results_cc rfl _ _ w.heap.size (w.heap.size + 1) _ _ _ _ (0, 0) (0, 0) _ _ rfl ra Tryz.underlying25 rfl (by kernel_rfl) rfl rb Tryz.underlying30 rfl (by kernel_rfl)) rfl ⟨?_, rc⟩
        rw [HE.out, HY.out]; rfl
      · have q1 : ¬ (1 : Int) < (us.length : Int) := by omega
        have HE := Lib.hid (show parseU s = (us.headD zeroU, 0, 0, 0) by rw [HPU.out, if_neg (fun h => h he), if_neg hn, if_neg hm])
        obtain ⟨u, hu⟩ : ∃ u, us = [u] := by
          match us, hn, hm with
          | [u], _, _ => exact ⟨u, rfl⟩
          | [], hn, _ => exact absurd rfl hn
          | _ :: _ :: _, _, hm => exact absurd (by simp) hm
        subst hu
        obtain ⟨uk, un, uo, up, ub, uf, ue, ul⟩ := u
        obtain ⟨b1, o1, c1, e9, _, _, _, _, hx⟩ := HOz.out.at_ (show 0 < [(⟨uk, un, uo, up, ub, uf, ue, ul⟩ : UpD)].length from Nat.zero_lt_one)
        have ea := (Value.slice.inj e9).1
        subst ea
        have z0 : wz.cell? ⟨b1, o1, none⟩ = some (.int .i64 uk) := by simpa using hx 0 _ rfl
        have z1 : wz.cell? ⟨b1, o1 + 1, none⟩ = some (.string (ba un)) := by simpa using hx 1 _ rfl
        have z2 : wz.cell? ⟨b1, o1 + 2, none⟩ = some (.int .i64 uo) := by simpa using hx 2 _ rfl
        have z3 : wz.cell? ⟨b1, o1 + 3, none⟩ = some (.int .i64 up) := by simpa using hx 3 _ rfl
        have z4 : wz.cell? ⟨b1, o1 + 4, none⟩ = some (.int .i64 ub) := by simpa using hx 4 _ rfl
        have z5 : wz.cell? ⟨b1, o1 + 5, none⟩ = some (.int .i64 uf) := by simpa using hx 5 _ rfl
        have z6 : wz.cell? ⟨b1, o1 + 6, none⟩ = some (.int .i64 ue) := by simpa using hx 6 _ rfl
        have z7 : wz.cell? ⟨b1, o1 + 7, none⟩ = some (.int .i64 ul) := by simpa using hx 7 _ rfl
        clear HPU he hn hm hf3 e9 hx
        have rr := (hbz.block w.heap.size (by omega)).trans HR1.out
        have rf := (hbz.block (w.heap.size + 1) (by omega)).trans HF1.out
        have u0 : wz.cell? ⟨w.heap.size, 0, none⟩ = some (.int .i64 0) := Lib.cell_of_heap rr 0
        have g0 : wz.frozen? ⟨w.heap.size, 0, none⟩ = false := Lib.frozen_of_heap rr 0
        have u1 : wz.cell? ⟨w.heap.size, 1, none⟩ = some (.string ⟨#[]⟩) := Lib.cell_of_heap rr 1
        have g1 : wz.frozen? ⟨w.heap.size, 1, none⟩ = false := Lib.frozen_of_heap rr 1
        have u2 : wz.cell? ⟨w.heap.size, 2, none⟩ = some (.int .i64 0) := Lib.cell_of_heap rr 2
        have g2 : wz.frozen? ⟨w.heap.size, 2, none⟩ = false := Lib.frozen_of_heap rr 2
        have u3 : wz.cell? ⟨w.heap.size, 3, none⟩ = some (.int .i64 0) := Lib.cell_of_heap rr 3
        have g3 : wz.frozen? ⟨w.heap.size, 3, none⟩ = false := Lib.frozen_of_heap rr 3
        have u4 : wz.cell? ⟨w.heap.size, 4, none⟩ = some (.int .i64 0) := Lib.cell_of_heap rr 4
        have g4 : wz.frozen? ⟨w.heap.size, 4, none⟩ = false := Lib.frozen_of_heap rr 4
        have u5 : wz.cell? ⟨w.heap.size, 5, none⟩ = some (.int .i64 0) := Lib.cell_of_heap rr 5
        have g5 : wz.frozen? ⟨w.heap.size, 5, none⟩ = false := Lib.frozen_of_heap rr 5
        have u6 : wz.cell? ⟨w.heap.size, 6, none⟩ = some (.int .i64 0) := Lib.cell_of_heap rr 6
        have g6 : wz.frozen? ⟨w.heap.size, 6, none⟩ = false := Lib.frozen_of_heap rr 6
        have u7 : wz.cell? ⟨w.heap.size, 7, none⟩ = some (.int .i64 0) := Lib.cell_of_heap rr 7
        have g7 : wz.frozen? ⟨w.heap.size, 7, none⟩ = false := Lib.frozen_of_heap rr 7
        have m0 : wz.cell? ⟨w.heap.size + 1, 0, none⟩ = some (.int .i64 0) := Lib.cell_of_heap rf 0
        have o0 : wz.frozen? ⟨w.heap.size + 1, 0, none⟩ = false := Lib.frozen_of_heap rf 0
        have m1 : wz.cell? ⟨w.heap.size + 1, 1, none⟩ = some (.int .i64 0) := Lib.cell_of_heap rf 1
        have o1 : wz.frozen? ⟨w.heap.size + 1, 1, none⟩ = false := Lib.frozen_of_heap rf 1
        have m2 : wz.cell? ⟨w.heap.size + 1, 2, none⟩ = some (.int .i64 0) := Lib.cell_of_heap rf 2
        have o2 : wz.frozen? ⟨w.heap.size + 1, 2, none⟩ = false := Lib.frozen_of_heap rf 2
        have RR := Lib.hid rr
        have RF := Lib.hid rf
        clear rr rf
        clear hbz
        go_wp2_with fail
        clear u0 u1 u2 u3 u4 u5 u6 u7 g0 g1 g2 g3 g4 g5 g6 g7 m0 m1 m2 o0 o1 o2
        obtain ⟨ra, rb, rc⟩ := res_put _ _ _ _ _ _ _ _ _ _ _ RR.out RF.out BZ.out (Nat.le_refl w.heap.size)
        refine bodyPost_ret (results_cc rfl _ _ w.heap.size (w.heap.size + 1) _ _ _ _ (0, 0) (0, 0) _ _ rfl ra Tryz.underlying25 rfl (by kernel_rfl) rfl rb Tryz.underlying30 rfl (by kernel_rfl)) rfl ⟨?_, rc⟩
        rw [HE.out]; rfl
  · have e0 : (fe == 0) = false := beq_eq_false_iff_ne.2 he
    have e1 : (fe != 0) = true := by rw [bne, e0]; rfl
    have HE := Lib.hid (show parseU s = (zeroU, fe, fl, fc) by rw [HPU.out, if_pos he])
    have hSw : (fun wy : World => wy.cell? ⟨w2.heap.size, 0, none⟩ = some (.int .i64 fe) ∧ wy.cell? ⟨w2.heap.size, 1, none⟩ = some (.int .i64 fl) ∧ wy.cell? ⟨w2.heap.size, 2, none⟩ = some (.int .i64 fc)) wz := ⟨k0, Lib.cell_of_heap hf3 1, Lib.cell_of_heap hf3 2⟩
    clear HPU he
    dsimp only at hSw
    go_wp2_with fail
    refine wp_region_kinds (fun wy : World => wy.cell? ⟨w2.heap.size, 0, none⟩ = some (.int .i64 fe) ∧ wy.cell? ⟨w2.heap.size, 1, none⟩ = some (.int .i64 fl) ∧ wy.cell? ⟨w2.heap.size, 2, none⟩ = some (.int .i64 fc)) [2] [3] [1] [0] [0, 1, 2, 3] (by kernel_rfl) (by kernel_rfl) (fun w n h => h) ?_
    repeat (first | (refine wpKind_free (v := ?_) (by rfl) rfl (by rfl) ?_ ?_; rotate_left 1; (focus (intro wy; go_simp; try with_reducible rfl; done)); try simp only [Act.put, List.setIfInBounds_toArray, List.set_cons_zero, List.set_cons_succ]) | (refine wpKind_held (v := ?_) (by rfl) rfl (by rfl) hSw ?_ ?_; rotate_left 1; (focus (intro wy hSy; obtain ⟨s0, s1, s2⟩ := hSy; go_simp; try with_reducible rfl; done)); try simp only [Act.put, List.setIfInBounds_toArray, List.set_cons_zero, List.set_cons_succ]))
    clear hSw k0
    refine wpKind_keeps (by rfl) rfl (fun n1 => ?_)
    obtain ⟨wa, hwa⟩ : ∃ wa, wz.drewN n1 = wa := ⟨_, rfl⟩
    have hqa : wa.heap[w.heap.size]? = some (.cells #[.int .i64 0, .string ⟨#[]⟩, .int .i64 0, .int .i64 0, .int .i64 0, .int .i64 0, .int .i64 0, .int .i64 0] 25 (0, 0)) := by rw [← hwa]; exact (hbz.block w.heap.size (by omega)).trans HR1.out
    have hfa : wa.heap[w.heap.size + 1]? = some (.cells #[.int .i64 0, .int .i64 0, .int .i64 0] 30 (0, 0)) := by rw [← hwa]; exact (hbz.block (w.heap.size + 1) (by omega)).trans HF1.out
    have HA := Lib.hid (set8 (.int .i64 0) (.string ⟨#[]⟩) (.int .i64 0) (.int .i64 0) (.int .i64 0) (.int .i64 0) (.int .i64 0) (.int .i64 0) hqa (by rw [← hwa]; exact below_drewN BZ.out n1) (Nat.le_refl _))
    have HFa := Lib.hid hfa
    have HSa := Lib.hid (show wa.heap[w2.heap.size]? = some (.cells #[.int .i64 fe, .int .i64 fl, .int .i64 fc] 30 (0, 0)) by rw [← hwa]; exact hf3)
    have u0 : wa.cell? ⟨w.heap.size, 0, none⟩ = some (.int .i64 0) := Lib.cell_of_heap hqa 0
    have g0 : wa.frozen? ⟨w.heap.size, 0, none⟩ = false := Lib.frozen_of_heap hqa 0
    have u1 : wa.cell? ⟨w.heap.size, 1, none⟩ = some (.string ⟨#[]⟩) := Lib.cell_of_heap hqa 1
    have g1 : wa.frozen? ⟨w.heap.size, 1, none⟩ = false := Lib.frozen_of_heap hqa 1
    have u2 : wa.cell? ⟨w.heap.size, 2, none⟩ = some (.int .i64 0) := Lib.cell_of_heap hqa 2
    have g2 : wa.frozen? ⟨w.heap.size, 2, none⟩ = false := Lib.frozen_of_heap hqa 2
    have u3 : wa.cell? ⟨w.heap.size, 3, none⟩ = some (.int .i64 0) := Lib.cell_of_heap hqa 3
    have g3 : wa.frozen? ⟨w.heap.size, 3, none⟩ = false := Lib.frozen_of_heap hqa 3
    have u4 : wa.cell? ⟨w.heap.size, 4, none⟩ = some (.int .i64 0) := Lib.cell_of_heap hqa 4
    have g4 : wa.frozen? ⟨w.heap.size, 4, none⟩ = false := Lib.frozen_of_heap hqa 4
    have u5 : wa.cell? ⟨w.heap.size, 5, none⟩ = some (.int .i64 0) := Lib.cell_of_heap hqa 5
    have g5 : wa.frozen? ⟨w.heap.size, 5, none⟩ = false := Lib.frozen_of_heap hqa 5
    have u6 : wa.cell? ⟨w.heap.size, 6, none⟩ = some (.int .i64 0) := Lib.cell_of_heap hqa 6
    have g6 : wa.frozen? ⟨w.heap.size, 6, none⟩ = false := Lib.frozen_of_heap hqa 6
    have u7 : wa.cell? ⟨w.heap.size, 7, none⟩ = some (.int .i64 0) := Lib.cell_of_heap hqa 7
    have g7 : wa.frozen? ⟨w.heap.size, 7, none⟩ = false := Lib.frozen_of_heap hqa 7
    rw [hwa]
    clear hwa hqa hfa hbz hf3
    go_wp2_with fail
    show _ ∧ _
    clear u0 u1 u2 u3 u4 u5 u6 u7 g0 g1 g2 g3 g4 g5 g6 g7
    obtain ⟨wE, hwE⟩ : ∃ wE, ((((((((wa.setCell ⟨w.heap.size, 0, none⟩ (.int .i64 0)).setCell ⟨w.heap.size, 1, none⟩ (.string ⟨#[]⟩)).setCell ⟨w.heap.size, 2, none⟩ (.int .i64 0)).setCell ⟨w.heap.size, 3, none⟩ (.int .i64 0)).setCell ⟨w.heap.size, 4, none⟩ (.int .i64 0)).setCell ⟨w.heap.size, 5, none⟩ (.int .i64 0)).setCell ⟨w.heap.size, 6, none⟩ (.int .i64 0)).setCell ⟨w.heap.size, 7, none⟩ (.int .i64 0)) = wE := ⟨_, rfl⟩
    obtain ⟨hE1, hE3, hE2⟩ := HA.out
    rw [hwE] at hE1 hE2 hE3 ⊢
    have hfb := (hE3 (w.heap.size + 1) (by omega)).trans HFa.out
    have hsE := (hE3 w2.heap.size (by omega)).trans HSa.out
    refine ⟨⟨Lib.cell_of_heap hsE 0, Lib.cell_of_heap hsE 1, Lib.cell_of_heap hsE 2⟩, ?_⟩
    have HE1 := Lib.hid hE1
    have HE2 := Lib.hid hE2
    have HFb := Lib.hid hfb
    clear hwE hE1 hE2 hE3 hfb hsE HA
    refine wpKind_serial (by rfl) rfl (fun n2 => ?_)
    obtain ⟨wb, hwb⟩ : ∃ wb, wE.drewN n2 = wb := ⟨_, rfl⟩
    have hqb : wb.heap[w.heap.size + 1]? = some (.cells #[.int .i64 0, .int .i64 0, .int .i64 0] 30 (0, 0)) := by rw [← hwb]; exact HFb.out
    have HB := Lib.hid (set3 (.int .i64 fe) (.int .i64 fl) (.int .i64 fc) hqb (by rw [← hwb]; exact below_drewN HE2.out n2) (Nat.le_succ _))
    have HE1b := Lib.hid (show wb.heap[w.heap.size]? = some (.cells #[.int .i64 0, .string ⟨#[]⟩, .int .i64 0, .int .i64 0, .int .i64 0, .int .i64 0, .int .i64 0, .int .i64 0] 25 (0, 0)) by rw [← hwb]; exact HE1.out)
    have m0 : wb.cell? ⟨w.heap.size + 1, 0, none⟩ = some (.int .i64 0) := Lib.cell_of_heap hqb 0
    have o0 : wb.frozen? ⟨w.heap.size + 1, 0, none⟩ = false := Lib.frozen_of_heap hqb 0
    have m1 : wb.cell? ⟨w.heap.size + 1, 1, none⟩ = some (.int .i64 0) := Lib.cell_of_heap hqb 1
    have o1 : wb.frozen? ⟨w.heap.size + 1, 1, none⟩ = false := Lib.frozen_of_heap hqb 1
    have m2 : wb.cell? ⟨w.heap.size + 1, 2, none⟩ = some (.int .i64 0) := Lib.cell_of_heap hqb 2
    have o2 : wb.frozen? ⟨w.heap.size + 1, 2, none⟩ = false := Lib.frozen_of_heap hqb 2
    rw [hwb]
    clear hwb hqb
    go_wp2_with fail
    show wpKind _ _ _ _ _ _ _ _ _
    refine wpKind_nil fun n3 => ?_
    obtain ⟨wF, hwF⟩ : ∃ wF, (((wb.setCell ⟨w.heap.size + 1, 0, none⟩ (.int .i64 fe)).setCell ⟨w.heap.size + 1, 1, none⟩ (.int .i64 fl)).setCell ⟨w.heap.size + 1, 2, none⟩ (.int .i64 fc)) = wF := ⟨_, rfl⟩
    obtain ⟨hF1, hF3, hF2⟩ := HB.out
    rw [hwF] at hF1 hF2 hF3 ⊢
    have hF0 := (hF3 w.heap.size (by omega)).trans HE1b.out
    go_wp2_with fail
    refine bodyPost_ret (results_cc rfl _ _ w.heap.size (w.heap.size + 1) _ _ _ _ (0, 0) (0, 0) _ _ rfl (show (wF.drewN n3).heap[w.heap.size]? = _ from hF0) Tryz.underlying25 rfl (by kernel_rfl) rfl (show (wF.drewN n3).heap[w.heap.size + 1]? = _ from hF1) Tryz.underlying30 rfl (by kernel_rfl)) rfl ⟨?_, below_drewN hF2 n3⟩
    rw [HE.out]; rfl
end Go.Proofs.YtlclkeihkkpdbaaGreatDoor
