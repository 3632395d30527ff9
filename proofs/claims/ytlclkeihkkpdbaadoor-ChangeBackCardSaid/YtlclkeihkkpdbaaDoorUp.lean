/- The law ChangeLines: its walk. -/
import Derived.Test.YtlclkeihkkpdbaaDoorUo
namespace Go.Proofs.YtlclkeihkkpdbaaDoor
open Go.RowKit
theorem joined_of' (s t : ByteArray) : Joined s t (s ++ ⟨#[10]⟩ ++ t) := by
  unfold Joined
  simp
theorem alloc_cells {w w' : World} {b : Nat} {o : Obj} (h : w.heap[b]? = some o) {x : Obj} (e : w.alloc x = w') : w'.heap[b]? = some o := by
  rw [← e, Below.heap_alloc _ _ _ (Array.getElem?_eq_some_iff.1 h).1]; exact h
theorem wpList_wanted {P : Program} {ops : Array Oper} {Q : Exit → Act → World → Prop} {rest : List Oper} {o : Oper} {a : Act} {w : World} (hw : Region.wanted o (yielded ops a.tmps) = true)
    (h : ∀ K : Act → World → Prop, (∀ a w, wpList P ops Q rest a w → K a w) → o.wp P a w K Q) : wpList P ops Q (o :: rest) a w :=
  wpList_step fun K hK => by simp only [hw, if_true]; exact h K hK
theorem lines_pos (s : ByteArray) : 0 < linesOf s := by
  unfold linesOf startsTo
  rw [List.length_cons]
  exact Nat.succ_pos _
theorem readL_le : ∀ gs : List (List TokD), (readL gs).us.length ≤ gs.length := by
  intro gs
  induction gs with
  | nil => exact Nat.le_refl _
  | cons g gs ih =>
    unfold readL
    split
    · exact Nat.zero_le _
    · split
      · exact Nat.zero_le _
      · simpa using ih
theorem splitE_le : ∀ (l acc : List TokD), (splitE acc l).length ≤ l.length + 1 := by
  intro l
  induction l with
  | nil =>
    intro acc
    unfold splitE
    split <;> simp
  | cons t l ih =>
    intro acc
    unfold splitE
    split
    · simpa using ih []
    · exact Nat.le_trans (ih _) (by simp)
theorem readU_le (s : ByteArray) : (readU s).us.length ≤ 2 * s.size + 1 := by
  unfold readU
  split
  · exact Nat.zero_le _
  · have h1 := readL_le (splitE [] (allD s).1)
    have h2 := splitE_le (allD s).1 []
    have h3 := tok_count s
    omega
set_option maxHeartbeats 4000000 in
set_option maxRecDepth 100000 in
theorem chlines_any (s t : ByteArray) (w : World) (hT : Tabs w) (hL : LibOk w) :
    Calls Tryd.prog 3 #[.string s, .string t] w fun e w' => e = .returned (.bool true) ∧ Below w.heap.size w w' := by
  have HT := Lib.hid hT
  have HL := Lib.hid hL
  clear hT hL
  go_enter Tryd.func3, Tryd.ntmps3
  go_wp2_with fail
  refine (chlives_any w HT.out HL.out).mono ?_
  rintro e w1 ⟨rfl, hb1⟩
  have HB1 := Lib.hid hb1
  clear hb1
  by_cases hbig : 1000 < s.size
  · have t1 : (1000 : Int) < (s.size : Int) := by omega
    go_wp2_with fail
    go_ret
    exact ⟨rfl, HB1.out⟩
  have t1 : ¬ (1000 : Int) < (s.size : Int) := by omega
  by_cases hbig2 : 1000 < t.size
  · have t2 : (1000 : Int) < (t.size : Int) := by omega
    go_wp2_with fail
    go_ret
    exact ⟨rfl, HB1.out⟩
  have t2 : ¬ (1000 : Int) < (t.size : Int) := by omega
  have hus : (s ++ ⟨#[10]⟩ ++ t).size ≤ 65536 := by rw [(joined_of' s t).size]; omega
  have HCL := Lib.hid (change_lines (joined_of' s t) hus)
  go_wp2_with fail
  have hca := chall_any s w1 (by omega) (HT.out.below HB1.out) (HL.out.below HB1.out)
  refine hca.mono ?_
  clear hca
  rintro e w2 ⟨va, rfl, ho2, hb2⟩
  have hL1 := lines_pos s
  have hna := readU_le s
  have hnb := readU_le t
  obtain ⟨⟨ua, ba1, e1, e2, e3⟩, hra⟩ : ∃ r, readU s = r := ⟨_, rfl⟩
  obtain ⟨⟨ub, bb1, f1, f2, f3⟩, hrb⟩ : ∃ r, readU t = r := ⟨_, rfl⟩
  obtain ⟨⟨uc, bc1, g1, g2, g3⟩, hrc⟩ : ∃ r, readU (s ++ ⟨#[10]⟩ ++ t) = r := ⟨_, rfl⟩
  obtain ⟨N, hN⟩ : ∃ N, linesOf s = N := ⟨_, rfl⟩
  have hcl := HCL.out
  rw [hra, hrb, hrc, hN] at hcl
  rw [hN] at hL1
  rw [hra] at ho2 hna ⊢
  rw [hrb] at hnb
  dsimp only at hcl ho2 hna hnb ⊢
  have HJ := Lib.hid hcl
  have HRB := Lib.hid hrb
  have HRC := Lib.hid hrc
  obtain ⟨A1, c1, rfl, _, _⟩ := ho2.shape
  have HB2 := Lib.hid (HB1.out.trans (hb2.mono HB1.out.size))
  have HO2 := Lib.hid (ho2.sl upc_len |>.mono (P' := fun _ => True) fun _ _ => trivial)
  clear ho2 hb2 hcl hra hrb hrc HCL hN
  go_wp2_with fail
  obtain ⟨wA, hwA⟩ : ∃ wA, w2.alloc (.cells #[.int .i64 e1, .int .i64 e2, .int .i64 e3] 26) = wA := ⟨_, rfl⟩
  have HQA := Lib.hid (show wA.heap[w2.heap.size]? = some (.cells #[.int .i64 e1, .int .i64 e2, .int .i64 e3] 26 (0, 0)) by rw [← hwA]; exact heap_alloc_new _ _)
  have HBA := Lib.hid (show Below w.heap.size w wA by rw [← hwA]; exact HB2.out.alloc HB2.out.size _)
  have HSA := Lib.hid (show Sl upc 8 wA (.slice A1 ua.length c1) ua (fun _ => True) by rw [← hwA]; exact HO2.out.alloc _)
  rw [hwA]
  have hlA : w2.heap.size < wA.heap.size := (Array.getElem?_eq_some_iff.1 HQA.out).1
  clear hwA HO2 HB2
  have hca := chall_any t wA (by omega) (HT.out.below HBA.out) (HL.out.below HBA.out)
  rw [HRB.out] at hca
  dsimp only at hca
  refine hca.mono ?_
  clear hca
  rintro e w3 ⟨vb, rfl, ho3, hb3⟩
  obtain ⟨A2, c2, rfl, _, _⟩ := ho3.shape
  have HB3 := Lib.hid (HBA.out.trans (hb3.mono HBA.out.size))
  have HS3 := Lib.hid (HSA.out.below_ hb3)
  have HQ3 := Lib.hid ((hb3.block _ hlA).trans HQA.out)
  have HO3 := Lib.hid (ho3.sl upc_len |>.mono (P' := fun _ => True) fun _ _ => trivial)
  clear ho3 hb3 HSA HQA HBA
  go_wp2_with fail
  obtain ⟨wC, hwC⟩ : ∃ wC, w3.alloc (.cells #[.int .i64 f1, .int .i64 f2, .int .i64 f3] 26) = wC := ⟨_, rfl⟩
  have HQC := Lib.hid (show wC.heap[w3.heap.size]? = some (.cells #[.int .i64 f1, .int .i64 f2, .int .i64 f3] 26 (0, 0)) by rw [← hwC]; exact heap_alloc_new _ _)
  have hlB : w2.heap.size < w3.heap.size := (Array.getElem?_eq_some_iff.1 HQ3.out).1
  have HPC := Lib.hid (alloc_cells HQ3.out hwC)
  have HBC := Lib.hid (show Below w.heap.size w wC by rw [← hwC]; exact HB3.out.alloc HB3.out.size _)
  have HSC := Lib.hid (show Sl upc 8 wC (.slice A1 ua.length c1) ua (fun _ => True) by rw [← hwC]; exact HS3.out.alloc _)
  have HOC := Lib.hid (show Sl upc 8 wC (.slice A2 ub.length c2) ub (fun _ => True) by rw [← hwC]; exact HO3.out.alloc _)
  rw [hwC]
  have hlC : w3.heap.size < wC.heap.size := (Array.getElem?_eq_some_iff.1 HQC.out).1
  clear hwC HS3 HB3 HQ3 HO3
  have hca := chall_any (s ++ ⟨#[10]⟩ ++ t) wC hus (HT.out.below HBC.out) (HL.out.below HBC.out)
  rw [HRC.out] at hca
  dsimp only at hca
  refine hca.mono ?_
  clear hca
  rintro e w4 ⟨vc, rfl, ho4, hb4⟩
  obtain ⟨A3, c3, rfl, _, _⟩ := ho4.shape
  have HB4 := Lib.hid (HBC.out.trans (hb4.mono HBC.out.size))
  have HS4 := Lib.hid (HSC.out.below_ hb4)
  have HO4 := Lib.hid (HOC.out.below_ hb4)
  have HQ4 := Lib.hid ((hb4.block _ hlC).trans HQC.out)
  have HP4 := Lib.hid ((hb4.block _ (Nat.lt_trans hlB hlC)).trans HPC.out)
  have HC4 := Lib.hid (ho4.sl upc_len |>.mono (P' := fun _ => True) fun _ _ => trivial)
  clear ho4 hb4 HSC HQC HBC HPC HOC
  go_upto_region 8 with fail
  obtain ⟨wD, hwD⟩ : ∃ wD, w4.alloc (.cells #[.int .i64 g1, .int .i64 g2, .int .i64 g3] 26) = wD := ⟨_, rfl⟩
  have HQD := Lib.hid (show wD.heap[w4.heap.size]? = some (.cells #[.int .i64 g1, .int .i64 g2, .int .i64 g3] 26 (0, 0)) by rw [← hwD]; exact heap_alloc_new _ _)
  have HFD := Lib.hid (alloc_cells HQ4.out hwD)
  have HED := Lib.hid (alloc_cells HP4.out hwD)
  have HBD := Lib.hid (show Below w.heap.size w wD by rw [← hwD]; exact HB4.out.alloc HB4.out.size _)
  have HAD := Lib.hid (show Sl upc 8 wD (.slice A1 ua.length c1) ua (fun _ => True) by rw [← hwD]; exact HS4.out.alloc _)
  have HBBD := Lib.hid (show Sl upc 8 wD (.slice A2 ub.length c2) ub (fun _ => True) by rw [← hwD]; exact HO4.out.alloc _)
  have HCD := Lib.hid (show Sl upc 8 wD (.slice A3 uc.length c3) uc (fun _ => True) by rw [← hwD]; exact HC4.out.alloc _)
  rw [hwD]
  have x0 : wD.cell? ⟨w2.heap.size, 0, none⟩ = some (.int .i64 e1) := Lib.cell_of_heap HED.out 0
  have x1 : wD.cell? ⟨w2.heap.size, 1, none⟩ = some (.int .i64 e2) := Lib.cell_of_heap HED.out 1
  have x2 : wD.cell? ⟨w2.heap.size, 2, none⟩ = some (.int .i64 e3) := Lib.cell_of_heap HED.out 2
  have y0 : wD.cell? ⟨w3.heap.size, 0, none⟩ = some (.int .i64 f1) := Lib.cell_of_heap HFD.out 0
  have y1 : wD.cell? ⟨w3.heap.size, 1, none⟩ = some (.int .i64 f2) := Lib.cell_of_heap HFD.out 1
  have y2 : wD.cell? ⟨w3.heap.size, 2, none⟩ = some (.int .i64 f3) := Lib.cell_of_heap HFD.out 2
  have z0 : wD.cell? ⟨w4.heap.size, 0, none⟩ = some (.int .i64 g1) := Lib.cell_of_heap HQD.out 0
  have z1 : wD.cell? ⟨w4.heap.size, 1, none⟩ = some (.int .i64 g2) := Lib.cell_of_heap HQD.out 1
  have z2 : wD.cell? ⟨w4.heap.size, 2, none⟩ = some (.int .i64 g3) := Lib.cell_of_heap HQD.out 2
  clear hlA hlB hlC HS4 HO4 HQ4 HP4 HC4 HB4 hwD
  by_cases he : e1 = 0
  · have k0 : (e1 == 0) = true := beq_iff_eq.2 he
    have k1 : (e1 != 0) = false := by rw [bne, k0]; rfl
    by_cases hf : f1 = 0
    · have m0 : (f1 == 0) = true := beq_iff_eq.2 hf
      have m1 : (f1 != 0) = false := by rw [bne, m0]; rfl
      obtain ⟨j1, j2, j3, j4⟩ := HJ.out.2.2 he hf
      have hq := fault_eql g1 g2 g3 0 0 0
      rw [decide_eq_true (show FaultD.mk g1 g2 g3 = FaultD.mk 0 0 0 by rw [j2, j3, j4])] at hq
      have HJ1 := Lib.hid j1
      have HJL := Lib.hid (show uc.length ≤ 1048576 by rw [j1, List.length_append]; omega)
      have HNA := Lib.hid (show ua.length ≤ 2001 by omega)
      have HNB := Lib.hid (show ub.length ≤ 2001 by omega)
      obtain ⟨i0, hi0, hz0, hz1, hz2⟩ := info_parts info_upd
      clear HJ j1 j2 j3 j4 he hf hna hnb hL1
      go_wp2_with fail
      have hown := own_upd wD _ ua HAD.out (by have := HNA.out; omega)
      refine hown.mono ?_
      clear hown
      rintro e w5 ⟨v5, rfl, ho5, hb5⟩
      obtain ⟨Av, nv, cv, rfl⟩ := ow_form ho5
      have HO5 := Lib.hid ho5
      have HB5 := Lib.hid hb5
      clear ho5 hb5 x0 x1 x2 y0 y1 y2 z0 z1 z2
      go_wp2_with (at_builtin; go_loud (refine wpList_wanted (by rfl) fun K hK => ?_; refine wp_append_sl w5 _ _ _ rfl wD.heap.size 33 i0 _ 72 Tryd.underlying23 hi0 hz0 hz1 hz2 (by rfl) (by omega) upc_len upc_one _ _ ua ub rfl rfl HO5.out (HBBD.out.below_ HB5.out) (by have := HNA.out; have := HNB.out; simp only [maxLen]; omega) (by have := HNA.out; have := HNB.out; omega) (by exact HB5.out.size) ?_; intro v6 w6 hown6 hg6 hmv6; refine hK _ _ ?_; clear hK; obtain ⟨Bv, nw, cw, ev6⟩ := ow_form hown6; subst ev6))
      have hb6 : Below wD.heap.size wD w6 := HB5.out.grown hg6 HB5.out.size fun k hk => (HO5.out.lt hk).1
      have hsm := sameUpd_any (.slice A3 uc.length c3) (.slice Bv nw cw) uc (ua ++ ub) w6 (HCD.out.below_ hb6) (hown6.sl upc_len) HJL.out
      rw [decide_eq_true HJ1.out] at hsm
      have HB6 := Lib.hid hb6
      refine hsm.mono ?_
      clear hsm hown6 hg6 hmv6 hb6
      rintro e w7 ⟨rfl, n7, rfl⟩
      go_wp2_with fail
      go_ret
      exact ⟨rfl, below_drewN (HBD.out.trans (HB6.out.mono HBD.out.size)) n7⟩
    · have m0 : (f1 == 0) = false := beq_eq_false_iff_ne.2 hf
      have m1 : (f1 != 0) = true := by rw [bne, m0]; rfl
      obtain ⟨j1, j2, j3, j4⟩ := HJ.out.2.1 he hf
      have q1 : ((uc.length : Int) == 0) = true := by rw [j1]; rfl
      have q2 : (g1 == f1) = true := beq_iff_eq.2 j2
      have q3 : (g3 == f3) = true := beq_iff_eq.2 j3
      have q4 : f2 < g2 := by omega
      clear HJ j1 j2 j3 j4 he hf
      go_wp2_with fail
      go_ret
      exact ⟨rfl, HBD.out⟩
  · have k0 : (e1 == 0) = false := beq_eq_false_iff_ne.2 he
    have k1 : (e1 != 0) = true := by rw [bne, k0]; rfl
    obtain ⟨j1, j2⟩ := HJ.out.1 he
    have q1 : ((uc.length : Int) == 0) = true := by rw [j1]; rfl
    have hq := fault_eql g1 g2 g3 e1 e2 e3
    by_cases hgf : FaultD.mk g1 g2 g3 = FaultD.mk e1 e2 e3
    · rw [decide_eq_true hgf] at hq
      clear HJ j1 j2 he hgf
      go_wp2_with fail
      go_ret
      exact ⟨rfl, HBD.out⟩
    · rw [decide_eq_false hgf] at hq
      have hf : f1 ≠ 0 := j2.resolve_left fun h => hgf (by rw [h.1, h.2.1, h.2.2])
      have m0 : (f1 == 0) = false := beq_eq_false_iff_ne.2 hf
      have m1 : (f1 != 0) = true := by rw [bne, m0]; rfl
      clear HJ j1 j2 he hgf hf
      go_wp2_with fail
      go_ret
      exact ⟨rfl, HBD.out⟩
end Go.Proofs.YtlclkeihkkpdbaaDoor
