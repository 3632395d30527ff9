/- change.All. -/
import Derived.Test.YtlclkeihkkpdbaaDoorUk
namespace Go.Proofs.YtlclkeihkkpdbaaDoor
open Go.RowKit
set_option maxHeartbeats 4000000 in
set_option maxRecDepth 100000 in
theorem chall_any (s : ByteArray) (w : World) (hs : s.size ≤ 65536) (hT : Tabs w) (hL : LibOk w) :
    Calls Tryd.prog 9 #[.string s] w fun e w' => ∃ vo, e = .returned (.tuple #[vo, .agg #[.int .i64 (readU s).err, .int .i64 (readU s).line, .int .i64 (readU s).col]]) ∧ Ow upc 8 w' w.heap.size 33 vo (readU s).us ∧ Below w.heap.size w w' := by
  have HP := Lib.hid (fun w' (hb : Below w.heap.size w w') => read_any s w' hs (hT.below hb) (hL.below hb))
  clear hT hL
  go_enter Tryd.func9, Tryd.ntmps9
  go_wp2_with fail
  obtain ⟨w1, hw1⟩ : ∃ w1, w.alloc (.cells #[.int .i64 0, .int .i64 0, .int .i64 0] 26) = w1 := ⟨_, rfl⟩
  have hb1 : Below w.heap.size w w1 := by rw [← hw1]; exact (Below.refl _ _).alloc (Nat.le_refl _) _
  have hz1 : w1.heap.size = w.heap.size + 1 := by rw [← hw1]; simp
  have hq1 : w1.heap[w.heap.size]? = some (.cells #[.int .i64 0, .int .i64 0, .int .i64 0] 26 (0, 0)) := by rw [← hw1]; exact heap_alloc_new _ _
  rw [hw1]
  refine (HP.out w1 hb1).mono ?_
  rintro e w2 ⟨vo, vb, rfl, ho, hb, hbl⟩
  have HO := Lib.hid ho
  have hb2 := hb1.trans (hbl.mono (by omega))
  have hq2 := (hbl.block w.heap.size (by omega)).trans hq1
  have hz2 : w.heap.size + 1 ≤ w2.heap.size := by have := hbl.size; omega
  have HB2 := Lib.hid hb2
  have HQ2 := Lib.hid hq2
  clear ho hb hbl HP hw1 hb1 hq1 hb2 hq2
  obtain ⟨fe, h1⟩ : ∃ x, (readU s).err = x := ⟨_, rfl⟩
  obtain ⟨fl, h2⟩ : ∃ x, (readU s).line = x := ⟨_, rfl⟩
  obtain ⟨fc, h3⟩ : ∃ x, (readU s).col = x := ⟨_, rfl⟩
  rw [h1, h2, h3]
  have HE := Lib.hid (And.intro h1 (And.intro h2 h3))
  clear h1 h2 h3
  go_upto_region 2 with fail
  obtain ⟨w3, hw3⟩ : ∃ w3, w2.alloc (.cells #[.int .i64 fe, .int .i64 fl, .int .i64 fc] 26) = w3 := ⟨_, rfl⟩
  have hf3 : w3.heap[w2.heap.size]? = some (.cells #[.int .i64 fe, .int .i64 fl, .int .i64 fc] 26 (0, 0)) := by rw [← hw3]; exact heap_alloc_new _ _
  have hq3 : w3.heap[w.heap.size]? = some (.cells #[.int .i64 0, .int .i64 0, .int .i64 0] 26 (0, 0)) := by rw [← hw3, Below.heap_alloc _ _ _ (by omega)]; exact HQ2.out
  have HO3 := Lib.hid (show Ow upc 8 w3 w1.heap.size 33 vo (readU s).us by rw [← hw3]; exact HO.out.alloc _)
  have HB3 := Lib.hid (show Below w.heap.size w w3 by rw [← hw3]; exact HB2.out.alloc (by omega) _)
  have HQ3 := Lib.hid hq3
  have hSw : (fun wy : World => wy.cell? ⟨w2.heap.size, 0, none⟩ = some (.int .i64 fe) ∧ wy.cell? ⟨w2.heap.size, 1, none⟩ = some (.int .i64 fl) ∧ wy.cell? ⟨w2.heap.size, 2, none⟩ = some (.int .i64 fc)) w3 := ⟨Lib.cell_of_heap hf3 0, Lib.cell_of_heap hf3 1, Lib.cell_of_heap hf3 2⟩
  rw [hw3]
  clear hw3 hf3 hq3 HO HB2 HQ2
  dsimp only at hSw
  go_wp2_with fail
  refine wp_region_kinds (fun wy : World => wy.cell? ⟨w2.heap.size, 0, none⟩ = some (.int .i64 fe) ∧ wy.cell? ⟨w2.heap.size, 1, none⟩ = some (.int .i64 fl) ∧ wy.cell? ⟨w2.heap.size, 2, none⟩ = some (.int .i64 fc)) [] [3] [1] [0, 2] [0, 1, 2, 3] (by kernel_rfl) (by kernel_rfl) (fun w n h => h) ?_
  repeat (first | (refine wpKind_free (v := ?_) (by rfl) rfl (by rfl) ?_ ?_; rotate_left 1; (focus (intro wy; go_simp; try with_reducible rfl; done)); try simp only [Act.put, List.setIfInBounds_toArray, List.set_cons_zero, List.set_cons_succ]) | (refine wpKind_held (v := ?_) (by rfl) rfl (by rfl) hSw ?_ ?_; rotate_left 1; (focus (intro wy hSy; obtain ⟨s0, s1, s2⟩ := hSy; go_simp; try with_reducible rfl; done)); try simp only [Act.put, List.setIfInBounds_toArray, List.set_cons_zero, List.set_cons_succ]))
  clear hSw
  refine wpKind_serial (by rfl) rfl (fun n1 => ?_)
  obtain ⟨wa, hwa⟩ : ∃ wa, w3.drewN n1 = wa := ⟨_, rfl⟩
  have hqa : wa.heap[w.heap.size]? = some (.cells #[.int .i64 0, .int .i64 0, .int .i64 0] 26 (0, 0)) := by rw [← hwa]; exact HQ3.out
  have HA := Lib.hid (set3 (.int .i64 fe) (.int .i64 fl) (.int .i64 fc) hqa (by rw [← hwa]; exact below_drewN HB3.out n1) (Nat.le_refl _))
  have HOa := Lib.hid (show Ow upc 8 wa w1.heap.size 33 vo (readU s).us by rw [← hwa]; exact HO3.out.drewN n1)
  have g0 : wa.frozen? ⟨w.heap.size, 0, none⟩ = false := Lib.frozen_of_heap hqa 0
  have g1 : wa.frozen? ⟨w.heap.size, 1, none⟩ = false := Lib.frozen_of_heap hqa 1
  have g2 : wa.frozen? ⟨w.heap.size, 2, none⟩ = false := Lib.frozen_of_heap hqa 2
  have x0 : wa.cell? ⟨w.heap.size, 0, none⟩ = some (.int .i64 0) := Lib.cell_of_heap hqa 0
  have x1 : wa.cell? ⟨w.heap.size, 1, none⟩ = some (.int .i64 0) := Lib.cell_of_heap hqa 1
  have x2 : wa.cell? ⟨w.heap.size, 2, none⟩ = some (.int .i64 0) := Lib.cell_of_heap hqa 2
  rw [hwa]
  clear hwa hqa
  go_wp2_with fail
  show wpKind _ _ _ _ _ _ _ _ _
  refine wpKind_nil fun n2 => ?_
  obtain ⟨wE, hwE⟩ : ∃ wE, ((wa.setCell ⟨w.heap.size, 0, none⟩ (.int .i64 fe)).setCell ⟨w.heap.size, 1, none⟩ (.int .i64 fl)).setCell ⟨w.heap.size, 2, none⟩ (.int .i64 fc) = wE := ⟨_, rfl⟩
  obtain ⟨hE1, hE3, hE2⟩ := HA.out
  rw [hwE] at hE1 hE2 hE3 ⊢
  go_wp2_with fail
  refine bodyPost_ret (results_tc rfl _ _ w.heap.size _ _ (0, 0) _ rfl (show (wE.drewN n2).heap[w.heap.size]? = _ from hE1) Tryd.underlying26 rfl (by kernel_rfl)) rfl ⟨vo, ?_, ?_, below_drewN hE2 n2⟩
  · rw [HE.out.1, HE.out.2.1, HE.out.2.2]; rfl
  · exact ((HOa.out.keepB (fun c hc hc2 => hE3 c (by omega))).lower (by omega)).drewN n2
end Go.Proofs.YtlclkeihkkpdbaaDoor
