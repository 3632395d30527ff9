/- The law LexBack: its walk. -/
import Derived.Test.YtongaakijljnaaaDoorLen
import Derived.Test.YtongaakijljnaaaDoorLbk
import Derived.Test.YtongaakijljnaaaDoorLbl
namespace Go.Proofs.YtongaakijljnaaaDoor
open Go.RowKit
theorem grpE_key : ∀ (l m : List TokD) (a b : List TokD), l.map key = m.map key → (a = [] ↔ b = []) → (grpE a l).length = (grpE b m).length := by
  intro l
  induction l with
  | nil =>
    intro m a b h hab
    cases m with
    | cons => cases h
    | nil =>
      unfold grpE
      by_cases ha : a = []
      · rw [if_pos ha, if_pos (hab.1 ha)]
      · rw [if_neg ha, if_neg (fun h => ha (hab.2 h))]; rfl
  | cons t l ih =>
    intro m a b h hab
    cases m with
    | nil => cases h
    | cons u m =>
      rw [List.map_cons, List.map_cons] at h
      injection h with h1 h2
      have hk : t.kind = u.kind := congrArg Prod.fst h1
      unfold grpE
      by_cases h4 : t.kind = 4
      · have hu : u.kind = 4 := by rw [← hk]; exact h4
        rw [if_pos h4, if_pos hu, List.length_append, List.length_append, ih m [] [] h2 Iff.rfl]
        by_cases ha : a = []
        · rw [if_pos ha, if_pos (hab.1 ha)]
        · rw [if_neg ha, if_neg (fun h => ha (hab.2 h))]; rfl
      · have hu : ¬ u.kind = 4 := by rw [← hk]; exact h4
        rw [if_neg h4, if_neg hu]
        exact ih m _ _ h2 (by simp)
theorem good_num {t : TokD} (h : GoodT t) : -9223372036854775808 ≤ t.num ∧ t.num ≤ 9223372036854775807 := by
  rcases h with h | h | ⟨_, h2, _, _, he⟩
  · rw [h.2.2]; omega
  · rw [h.2.1]; omega
  · rcases Tk.text_parse t.text with h | ⟨_, h5, _⟩
    · exact absurd he h.1
    · rw [h2]
      unfold Tk.isT at h5
      have := of_decide_eq_true h5
      omega
set_option maxHeartbeats 4000000 in
set_option maxRecDepth 100000 in
theorem lback_any (s : ByteArray) (w : World) (hT : Tabs w) (hL : LibOk w) (hP : Pow w) :
    Calls Tryd.prog 8 #[.string s] w fun e w' => e = .returned (.bool true) ∧ Below w.heap.size w w' := by
  have HT := Lib.hid hT
  have HL := Lib.hid hL
  have HP := Lib.hid hP
  clear hT hL hP
  go_enter Tryd.func8, Tryd.ntmps8
  go_wp2_with fail
  refine (lives_any w HT.out HL.out).mono ?_
  rintro e w1 ⟨rfl, hb1⟩
  have HB1 := Lib.hid hb1
  have HT1 := Lib.hid (HT.out.below hb1)
  have HL1 := Lib.hid (HL.out.below hb1)
  clear hb1
  by_cases hbig : 3000 < s.size
  · have t1 : (3000 : Int) < (s.size : Int) := by omega
    go_wp2_with fail
    go_ret
    exact ⟨rfl, HB1.out⟩
  have t1 : ¬ (3000 : Int) < (s.size : Int) := by omega
  go_wp2_with fail
  refine (all_ok s w1 (by omega) HT1.out HL1.out).mono ?_
  rintro e w2 ⟨v2, rfl, ho2, hb2⟩
  obtain ⟨hpe, hpk⟩ := places s (by omega)
  have hct := tok_count s
  have hsum := sum_all s
  have hgood := good_all s
  have hback := back_all s
  obtain ⟨l, hl⟩ : ∃ l, (allD s).1 = l := ⟨_, rfl⟩
  obtain ⟨⟨fe, fl, fc⟩, hf⟩ : ∃ f, (allD s).2 = f := ⟨_, rfl⟩
  rw [hl] at ho2 hct hsum hgood hback hpe
  rw [hf] at hback hpe ⊢
  dsimp only at hback hpe
  have hlen := textF_len l true hgood
  dsimp only [FaultD.v]
  obtain ⟨A1, n1, c1, rfl⟩ := ow_form ho2
  have hn1 : n1 = l.length := by
    obtain ⟨A, cap, e, _⟩ := ho2.shape
    injection e
  subst hn1
  have HO2 := Lib.hid (ho2.sl tkc_len |>.mono (P' := fun _ => True) fun _ _ => trivial)
  have HB2 := Lib.hid (HB1.out.trans (hb2.mono HB1.out.size))
  have HPE := Lib.hid hpe
  have HG := Lib.hid hgood
  have HBK := Lib.hid hback
  have HLEN := Lib.hid (show (textF true l).length ≤ 9000 by omega)
  clear ho2 hb2 hl hf hpe hpk hgood hback hlen hsum
  obtain ⟨wA, hwA⟩ : ∃ wA, w2.alloc (.cells #[.int .i64 fe, .int .i64 fl, .int .i64 fc] 26) = wA := ⟨_, rfl⟩
  have HBA := Lib.hid (show Below w.heap.size w wA by rw [← hwA]; exact HB2.out.alloc HB2.out.size _)
  have HSA := Lib.hid (show Sl tkc 5 wA (.slice A1 l.length c1) l (fun _ => True) by rw [← hwA]; exact HO2.out.alloc _)
  have x0 : wA.cell? ⟨w2.heap.size, 0, none⟩ = some (.int .i64 fe) := by rw [← hwA]; exact Lib.cell_of_heap (heap_alloc_new _ _) 0
  by_cases he : fe = 0
  · have e0 : (fe == 0) = true := beq_iff_eq.2 he
    have e1 : (fe != 0) = false := by rw [bne, e0]; rfl
    obtain ⟨u, hu⟩ : ∃ u, ba (textF true l) = u := ⟨_, rfl⟩
    have husz : u.size ≤ 9000 := by rw [← hu, ba_size]; exact HLEN.out
    obtain ⟨b1, b2⟩ := HBK.out u (by omega) (by omega) he (by rw [← hu]; exact ba_list _)
    have hgm := good_all u
    have hcm := tok_count u
    have hus : u.size ≤ 65536 := by omega
    obtain ⟨m, hm⟩ : ∃ m, (allD u).1 = m := ⟨_, rfl⟩
    rw [hm] at b2 hgm hcm
    have HM := Lib.hid hm
    have HF := Lib.hid b1
    have HK := Lib.hid b2
    have HU := Lib.hid hu
    have HGM := Lib.hid hgm
    have htx : textF true m = textF true l := textF_key m l true b2
    have HTX := Lib.hid htx
    clear he b1 b2 hm hgm HPE HBK htx
    go_wp2_with fail
    refine (text_any wA _ l HSA.out (fun t ht => good_num (HG.out t ht)) (by have := HLEN.out; omega) (HP.out.below HBA.out)).mono ?_
    rintro e w3 ⟨rfl, hb3⟩
    rw [HU.out]
    have HB3 := Lib.hid (HBA.out.trans (hb3.mono HBA.out.size))
    have HS3 := Lib.hid (HSA.out.below_ hb3)
    clear hb3 x0 hwA HSA HBA hu
    go_wp2_with fail
    refine (all_ok u w3 hus (HT.out.below HB3.out) (HL.out.below HB3.out)).mono ?_
    rintro e w4 ⟨v4, rfl, ho4, hb4⟩
    rw [HF.out]
    rw [HM.out] at ho4
    dsimp only [FaultD.v]
    obtain ⟨A4, n4, c4, rfl⟩ := ow_form ho4
    have hn4 : n4 = m.length := by
      obtain ⟨A, cap, e, _⟩ := ho4.shape
      injection e
    subst hn4
    have HO4 := Lib.hid (ho4.sl tkc_len |>.mono (P' := fun _ => True) fun _ _ => trivial)
    have HS4 := Lib.hid (HS3.out.below_ hb4)
    have HB4 := Lib.hid (HB3.out.trans (hb4.mono HB3.out.size))
    clear ho4 hb4 HB3 HS3
    obtain ⟨wB, hwB⟩ : ∃ wB, w4.alloc (.cells #[.int .i64 0, .int .i64 0, .int .i64 0] 26) = wB := ⟨_, rfl⟩
    have HQB := Lib.hid (show wB.heap[w4.heap.size]? = some (.cells #[.int .i64 0, .int .i64 0, .int .i64 0] 26 (0, 0)) by rw [← hwB]; exact heap_alloc_new _ _)
    have HBB := Lib.hid (show Below w.heap.size w wB by rw [← hwB]; exact HB4.out.alloc HB4.out.size _)
    have HSB := Lib.hid (show Sl tkc 5 wB (.slice A1 l.length c1) l (fun _ => True) by rw [← hwB]; exact HS4.out.alloc _)
    have HMB := Lib.hid (show Sl tkc 5 wB (.slice A4 m.length c4) m (fun _ => True) by rw [← hwB]; exact HO4.out.alloc _)
    have z0 : wB.cell? ⟨w4.heap.size, 0, none⟩ = some (.int .i64 0) := Lib.cell_of_heap HQB.out 0
    have z1 : wB.cell? ⟨w4.heap.size, 1, none⟩ = some (.int .i64 0) := Lib.cell_of_heap HQB.out 1
    have z2 : wB.cell? ⟨w4.heap.size, 2, none⟩ = some (.int .i64 0) := Lib.cell_of_heap HQB.out 2
    have hfe := fault_yes 0 0 0 0 0 0 rfl
    have HWB := Lib.hid hwB
    clear HB4 HS4 HO4 hwB
    go_wp2_with fail
    rw [HWB.out]
    clear z0 z1 z2 hfe HQB
    refine (like_any _ _ l m wB HSB.out HMB.out (by omega)).mono ?_
    rintro e w5 ⟨rfl, hb5⟩
    rw [decide_eq_true HK.out.symm]
    have HB5 := Lib.hid (HBB.out.trans (hb5.mono HBB.out.size))
    have HS5 := Lib.hid (HSB.out.below_ hb5)
    have HM5 := Lib.hid (HMB.out.below_ hb5)
    clear hb5 HBB HSB HMB
    go_wp2_with fail
    refine (text_any w5 _ m HM5.out (fun t ht => good_num (HGM.out t ht)) (by rw [HTX.out]; have := HLEN.out; omega) (HP.out.below HB5.out)).mono ?_
    rintro e w6 ⟨rfl, hb6⟩
    rw [HTX.out, HU.out]
    have HB6 := Lib.hid (HB5.out.trans (hb6.mono HB5.out.size))
    have HS6 := Lib.hid (HS5.out.below_ hb6)
    have HM6 := Lib.hid (HM5.out.below_ hb6)
    clear hb6 HB5 HS5 HM5
    go_wp2_with fail
    refine (lines_any w6 _ m HM6.out (by omega)).mono ?_
    rintro e w7 ⟨v7, s7, rfl, hg7, hb7, ho7, hr7⟩
    have HB7 := Lib.hid (HB6.out.trans (hb7.mono HB6.out.size))
    have HS7 := Lib.hid (HS6.out.below_ hb7)
    have HM7 := Lib.hid (HM6.out.below_ hb7)
    have HG7 := Lib.hid hg7
    have HO7 := Lib.hid ho7
    have HR7 := Lib.hid hr7
    clear hg7 hb7 ho7 hr7 HS6 HM6
    go_wp2_with fail
    refine (lines_any w7 _ m HM7.out (by omega)).mono ?_
    rintro e w8 ⟨v8, s8, rfl, hg8, hb8, ho8, hr8⟩
    have HB8 := Lib.hid (HB7.out.trans (hb8.mono HB7.out.size))
    have HS8 := Lib.hid (HS7.out.below_ hb8)
    have HM8 := Lib.hid (HM7.out.below_ hb8)
    have HO8 := Lib.hid (HO7.out.below hb8 fun k hk => (HO7.out.lt hk).2)
    have HR8 := Lib.hid (fun r hr => (HR7.out r hr).below hb8 fun k hk => ((HR7.out r hr).lt hk).2)
    have hsz8 : s7.length ≤ 1048576 := rows_few HG7.out (by omega)
    have hrz8 := rows_short HG7.out (show m.length ≤ 1048576 by omega)
    have HLI := Lib.hid (lists_any v7 v8 s7 s8 w8 _ _ HO8.out ho8 HR8.out hr8 (by rw [HG7.out, hg8]) hsz8 hrz8)
    clear hg8 hb8 ho8 hr8 HO7 HR7 HS7 HM7 HB7 HB6 hrz8
    go_wp2_with fail
    refine HLI.out.mono ?_
    rintro e w9 ⟨rfl, n9, rfl⟩
    have HB9 := Lib.hid (below_drewN HB8.out n9)
    have HS9 := Lib.hid (HS8.out.drewN n9)
    have HM9 := Lib.hid (HM8.out.drewN n9)
    clear HLI HO8 HR8 HS8 HM8 HB8
    obtain ⟨wC, hwC⟩ : ∃ wC, w8.drewN n9 = wC := ⟨_, rfl⟩
    rw [hwC] at HB9 HS9 HM9 ⊢
    clear hwC
    go_wp2_with fail
    refine (lines_any wC _ l HS9.out (by omega)).mono ?_
    rintro e w10 ⟨v10, s10, rfl, hg10, hb10, ho10, hr10⟩
    obtain ⟨A10, n10, c10, rfl⟩ := ow_form ho10
    have hn10 : n10 = s10.length := by
      obtain ⟨A, cap, e, _⟩ := ho10.shape
      injection e
    subst hn10
    have HB10 := Lib.hid (HB9.out.trans (hb10.mono HB9.out.size))
    have HM10 := Lib.hid (HM9.out.below_ hb10)
    have HG10 := Lib.hid hg10
    clear hg10 hb10 ho10 hr10 HS9 HM9 HB9
    go_wp2_with fail
    refine (lines_any w10 _ m HM10.out (by omega)).mono ?_
    rintro e w11 ⟨v11, s11, rfl, hg11, hb11, ho11, hr11⟩
    obtain ⟨A11, n11, c11, rfl⟩ := ow_form ho11
    have hn11 : n11 = s11.length := by
      obtain ⟨A, cap, e, _⟩ := ho11.shape
      injection e
    subst hn11
    have HB11 := Lib.hid (HB10.out.trans (hb11.mono HB10.out.size))
    have hfin : s10.length = s11.length := by
      have h1 := congrArg List.length HG10.out
      have h2 := congrArg List.length hg11
      rw [List.length_map] at h1 h2
      rw [h1, h2]
      exact grpE_key l m [] [] HK.out.symm Iff.rfl
    rw [hfin]
    clear hg11 hb11 ho11 hr11 hfin
    go_wp2_with fail
    go_ret
    exact ⟨rfl, HB11.out⟩
  · have e0 : (fe == 0) = false := beq_eq_false_iff_ne.2 he
    have e1 : (fe != 0) = true := by rw [bne, e0]; rfl
    obtain ⟨hl0, _⟩ := HPE.out he
    subst hl0
    clear he HPE
    go_wp2_with fail
    go_ret
    exact ⟨rfl, HBA.out⟩
end Go.Proofs.YtongaakijljnaaaDoor
