/- Parse of a text that is longer than a text may be. (Its second half is qparse_any's.) -/
import Derived.Test.YtmihinhbcncbfaaGreatDoorQh
namespace Go.Proofs.YtmihinhbcncbfaaGreatDoor
open Go.RowKit
set_option maxHeartbeats 4000000 in
set_option maxRecDepth 100000 in
theorem yall_long (s : ByteArray) (w : World) (hs : 65536 < s.size) :
    Calls Tryz.prog 53 #[.string s] w fun e w' => ∃ v, e = .returned (.tuple #[v, .agg #[.int .i64 3, .int .i64 1, .int .i64 1]]) ∧ Ow tkc 5 w' w.heap.size 95 v ([] : List TokD) ∧ Below w.heap.size w w' := by
  have t0 : (65536 : Int) < (s.size : Int) := by omega
  go_enter Tryz.func53, Tryz.ntmps53
  go_upto_region 2 with fail
  obtain ⟨w1, hw1⟩ : ∃ w1, w.alloc (.cells #[.int .i64 0, .int .i64 0, .int .i64 0] 61) = w1 := ⟨_, rfl⟩
  have hA : w1.heap[w.heap.size]? = some (.cells #[.int .i64 0, .int .i64 0, .int .i64 0] 61 (0, 0)) := by rw [← hw1]; exact heap_alloc_new _ _
  have HB1 := Lib.hid (show Below w.heap.size w w1 by rw [← hw1]; exact (Below.refl _ _).alloc (Nat.le_refl _) _)
  rw [hw1]
  clear hw1
  go_wp2_with (first | (refine wpList_store_row rfl 61 _ _ rfl w.heap.size #[.int .i64 3, .int .i64 1, .int .i64 1] rfl rfl 61 #[.int .i64 0, .int .i64 0, .int .i64 0] hA (by kernel_rfl) rfl (three_allQ 3 1 1) ?_))
  refine bodyPost_ret (results_tc rfl _ _ w.heap.size _ _ (0, 0) _ rfl (setRow_heap w1 _ _ _ _ _ hA) Tryz.underlying61 rfl (by kernel_rfl)) rfl ⟨.slice none 0 0, rfl, Ow.nil_, below_setRow HB1.out (Nat.le_refl _) _⟩
set_option maxHeartbeats 16000000 in
set_option maxRecDepth 100000 in
theorem qparse_long (s : ByteArray) (w : World) (hs : 65536 < s.size) :
    Calls Tryz.prog 26 #[.string s] w fun e w' => ∃ x : SheetM, x.d = zeroD ∧ e = .returned (.tuple #[x.v, .agg #[.int .i64 3, .int .i64 1, .int .i64 1]]) ∧ x.Good w' (fun k => w.heap.size ≤ k) ∧ Below w.heap.size w w' := by
  have HALL := Lib.hid (fun W => yall_long s W hs)
  clear hs
  obtain ⟨e1, he1⟩ : ∃ e : Int, e = 3 := ⟨_, rfl⟩
  obtain ⟨e2, he2⟩ : ∃ e : Int, e = 1 := ⟨_, rfl⟩
  obtain ⟨e3, he3⟩ : ∃ e : Int, e = 1 := ⟨_, rfl⟩
  have E := Lib.hid (And.intro he1 (And.intro he2 he3))
  obtain ⟨L, hL⟩ : ∃ L : List TokD, L = [] := ⟨_, rfl⟩
  rw [← he1, ← he2] at HALL
  have HALL2 := Lib.hid (fun W => (show Calls Tryz.prog 53 #[.string s] W fun e w' => ∃ v, e = .returned (.tuple #[v, .agg #[.int .i64 e1, .int .i64 e2, .int .i64 e3]]) ∧ Ow tkc 5 w' W.heap.size 95 v L ∧ Below W.heap.size W w' by rw [he3, ← he2, hL]; exact HALL.out W))
  clear HALL
  have HALL := HALL2
  clear HALL2
  have he : e1 ≠ 0 := by rw [he1]; decide
  clear he1 he2 he3 hL
  go_enter Tryz.func26, Tryz.ntmps26
  go_upto_region 1 with fail
  obtain ⟨w1, hw1⟩ : ∃ w1, (w.alloc (.cells #[.int .i64 0, .slice none 0 0, .slice none 0 0, .slice none 0 0, .slice none 0 0, .slice none 0 0, .slice none 0 0] 29)).alloc (.cells #[.int .i64 0, .int .i64 0, .int .i64 0] 61) = w1 := ⟨_, rfl⟩
  have HB1 := Lib.hid (show Below w.heap.size w w1 by rw [← hw1]; exact ((Below.refl _ _).alloc (Nat.le_refl _) _).alloc (by simp) _)
  have HP1 := Lib.hid (show w1.heap[w.heap.size]? = some (.cells #[.int .i64 0, .slice none 0 0, .slice none 0 0, .slice none 0 0, .slice none 0 0, .slice none 0 0, .slice none 0 0] 29 (0, 0)) by rw [← hw1, Below.heap_alloc _ _ _ (by simp)]; exact heap_alloc_new _ _)
  have HQ1 := Lib.hid (show w1.heap[w.heap.size + 1]? = some (.cells #[.int .i64 0, .int .i64 0, .int .i64 0] 61 (0, 0)) by
    rw [← hw1]
    have h := heap_alloc_new (w.alloc (.cells #[.int .i64 0, .slice none 0 0, .slice none 0 0, .slice none 0 0, .slice none 0 0, .slice none 0 0, .slice none 0 0] 29)) (.cells #[.int .i64 0, .int .i64 0, .int .i64 0] 61)
    rw [show (w.alloc (.cells #[.int .i64 0, .slice none 0 0, .slice none 0 0, .slice none 0 0, .slice none 0 0, .slice none 0 0, .slice none 0 0] 29)).heap.size = w.heap.size + 1 by simp] at h
    exact h)
  have HZ1 := Lib.hid (show w1.heap.size = w.heap.size + 2 by rw [← hw1]; simp)
  rw [hw1]
  clear hw1
  go_wp2_with fail
  refine (HALL.out w1).mono ?_
  rintro e w2 ⟨v0, rfl, ho, hb⟩
  obtain ⟨A0, c0, rfl⟩ := ow_slice tkc_len ho
  have HT2 := Lib.hid ((ho.sl tkc_len).mono (P' := fun k => k < w2.heap.size) fun k hk => (ho.lt hk.1).2)
  have HB2 := Lib.hid (HB1.out.trans (hb.mono HB1.out.size))
  have HP2 := Lib.hid ((hb.block _ (by have := HZ1.out; omega)).trans HP1.out)
  have HQ2 := Lib.hid ((hb.block _ (by have := HZ1.out; omega)).trans HQ1.out)
  have HZ2 := Lib.hid (show w.heap.size + 2 ≤ w2.heap.size by have := hb.size; have := HZ1.out; omega)
  clear ho hb HP1 HQ1 HB1 HALL
  go_upto_region 2 with fail
  obtain ⟨g, hgq⟩ : ∃ g, w2.heap.size = g := ⟨_, rfl⟩
  obtain ⟨w3, hw3⟩ : ∃ w3, w2.alloc (.cells #[.int .i64 e1, .int .i64 e2, .int .i64 e3] 61) = w3 := ⟨_, rfl⟩
  have hb3 : Below w2.heap.size w2 w3 := by rw [← hw3]; exact (Below.refl _ _).alloc (Nat.le_refl _) _
  have HE3 := Lib.hid (show w3.heap[g]? = some (.cells #[.int .i64 e1, .int .i64 e2, .int .i64 e3] 61 (0, 0)) by rw [← hw3, ← hgq]; exact heap_alloc_new _ _)
  have HZ3 := Lib.hid (show w3.heap.size = g + 1 by rw [← hw3, ← hgq]; simp)
  have HT3 := Lib.hid (HT2.out.below_ hb3)
  have HB3 := Lib.hid (HB2.out.trans (hb3.mono HB2.out.size))
  have HP3 := Lib.hid ((hb3.block _ (by have := HZ2.out; omega)).trans HP2.out)
  have HQ3 := Lib.hid ((hb3.block _ (by have := HZ2.out; omega)).trans HQ2.out)
  have HG3 := Lib.hid (show w.heap.size + 2 ≤ g by rw [← hgq]; exact HZ2.out)
  rw [hw3, hgq]
  rw [hgq] at HT3
  clear hw3 hb3 hgq HT2 HB2 HP2 HQ2 HZ2
  have y0 : w3.cell? ⟨g, 0, none⟩ = some (.int .i64 e1) := Lib.cell_of_heap HE3.out 0
  have k1 : (e1 == 0) = false := beq_eq_false_iff_ne.2 he
  have k2 : (e1 != 0) = true := by rw [bne, k1]; rfl
  clear he
  go_upto_region 3 with fail
  clear y0
  have hSw : w3.heap[g]? = some (.cells #[.int .i64 e1, .int .i64 e2, .int .i64 e3] 61 (0, 0)) := HE3.out
  refine wp_region_kinds (fun wy => wy.heap[g]? = some (.cells #[.int .i64 e1, .int .i64 e2, .int .i64 e3] 61 (0, 0))) [2] [3] [1] [0] [0, 1, 2, 3] (by kernel_rfl) (by kernel_rfl) (fun w n h => h) ?_
  repeat (first | (refine wpKind_free (v := ?_) (by rfl) rfl (by rfl) ?_ ?_; rotate_left 1; (focus (intro wy; go_simp; try with_reducible rfl; done)); try simp only [Act.put, List.setIfInBounds_toArray, List.set_cons_zero, List.set_cons_succ]) | (refine wpKind_held (v := ?_) (by rfl) rfl (by rfl) hSw ?_ ?_; rotate_left 1; (focus (intro wy hSy; have s0 : wy.cell? ⟨g, 0, none⟩ = some (.int .i64 e1) := Lib.cell_of_heap hSy 0; have s1 : wy.cell? ⟨g, 1, none⟩ = some (.int .i64 e2) := Lib.cell_of_heap hSy 1; have s2 : wy.cell? ⟨g, 2, none⟩ = some (.int .i64 e3) := Lib.cell_of_heap hSy 2; clear hSy; go_simp; try with_reducible rfl; done)); try simp only [Act.put, List.setIfInBounds_toArray, List.set_cons_zero, List.set_cons_succ]))
  clear hSw
  refine wpKind_keeps (by rfl) rfl (fun m1 => ?_)
  refine wpList_store_row rfl 29 _ _ rfl w.heap.size #[.int .i64 0, .slice none 0 0, .slice none 0 0, .slice none 0 0, .slice none 0 0, .slice none 0 0, .slice none 0 0] rfl rfl 29 #[.int .i64 0, .slice none 0 0, .slice none 0 0, .slice none 0 0, .slice none 0 0, .slice none 0 0, .slice none 0 0] (show (w3.drewN m1).heap[w.heap.size]? = _ from HP3.out) (by kernel_rfl) rfl (seven_all _ _ _ _ _ _ _ _ _ _ _ _ _ _ _ _ _ _ _) ?_
  obtain ⟨wa, hwa⟩ : ∃ X, (w3.drewN m1).setRow w.heap.size #[.int .i64 0, .slice none 0 0, .slice none 0 0, .slice none 0 0, .slice none 0 0, .slice none 0 0, .slice none 0 0] = X := ⟨_, rfl⟩
  have ra := setRow_heap (w3.drewN m1) w.heap.size _ #[.int .i64 0, .slice none 0 0, .slice none 0 0, .slice none 0 0, .slice none 0 0, .slice none 0 0, .slice none 0 0] _ _ HP3.out
  have oa : ∀ c, c ≠ w.heap.size → wa.heap[c]? = w3.heap[c]? := fun c hc => by rw [← hwa]; exact setRow_other (w3.drewN m1) _ c _ hc
  have bwa := below_setRow (below_drewN HB3.out m1) (Nat.le_refl w.heap.size) #[.int .i64 0, .slice none 0 0, .slice none 0 0, .slice none 0 0, .slice none 0 0, .slice none 0 0, .slice none 0 0]
  rw [hwa] at ra bwa ⊢
  clear hwa
  show _ ∧ _
  refine ⟨(oa _ (by have := HG3.out; omega)).trans HE3.out, ?_⟩
  have RB2 := (oa (w.heap.size + 1) (by omega)).trans HQ3.out
  refine wpKind_serial (by rfl) rfl (fun m2 => ?_)
  refine wpList_store_row rfl 61 _ _ rfl (w.heap.size + 1) #[.int .i64 e1, .int .i64 e2, .int .i64 e3] rfl rfl 61 #[.int .i64 0, .int .i64 0, .int .i64 0] (show (wa.drewN m2).heap[w.heap.size + 1]? = _ from RB2) (by kernel_rfl) rfl (three_allQ _ _ _) ?_
  obtain ⟨wb, hwb⟩ : ∃ X, (wa.drewN m2).setRow (w.heap.size + 1) #[.int .i64 e1, .int .i64 e2, .int .i64 e3] = X := ⟨_, rfl⟩
  have rb := setRow_heap (wa.drewN m2) (w.heap.size + 1) _ #[.int .i64 e1, .int .i64 e2, .int .i64 e3] _ _ RB2
  have ob : wb.heap[w.heap.size]? = wa.heap[w.heap.size]? := by rw [← hwb]; exact setRow_other (wa.drewN m2) _ _ _ (by omega)
  have bwb := below_setRow (below_drewN bwa m2) (Nat.le_succ w.heap.size) #[.int .i64 e1, .int .i64 e2, .int .i64 e3]
  rw [hwb] at rb bwb ⊢
  clear hwb
  intro m3
  show Exit.then _ _ _ _ _
  have RA := Lib.hid (show (wb.drewN m3).heap[w.heap.size]? = some (.cells #[.int .i64 0, .slice none 0 0, .slice none 0 0, .slice none 0 0, .slice none 0 0, .slice none 0 0, .slice none 0 0] 29 (0, 0)) from ob.trans ra)
  have RB := Lib.hid (show (wb.drewN m3).heap[w.heap.size + 1]? = some (.cells #[.int .i64 e1, .int .i64 e2, .int .i64 e3] 61 (0, 0)) from rb)
  have RC := Lib.hid (below_drewN bwb m3)
  clear RB2 ra rb oa ob bwa bwb
  go_wp2_with fail
  try simp only [Exit.inBlock, Exit.then]
  refine bodyPost_ret (results_cc rfl _ _ w.heap.size (w.heap.size + 1) _ _ _ _ (0, 0) (0, 0) _ _ rfl RA.out Tryz.underlying29 rfl (by kernel_rfl) rfl RB.out Tryz.underlying61 rfl (by kernel_rfl)) rfl ?_
  exact ⟨zeroM, rfl, by rw [E.out.1, E.out.2.1, E.out.2.2]; rfl, zeroM_good _ _, RC.out⟩
end Go.Proofs.YtmihinhbcncbfaaGreatDoor
