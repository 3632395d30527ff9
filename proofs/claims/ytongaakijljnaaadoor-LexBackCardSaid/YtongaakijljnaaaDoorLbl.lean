/- The law LexBlanks: its walk. -/
import Derived.Test.YtongaakijljnaaaDoorLlk
import Derived.Test.YtongaakijljnaaaDoorLtx
import Derived.Test.YtongaakijljnaaaDoorLu
namespace Go.Proofs.YtongaakijljnaaaDoor
open Go.RowKit
theorem ba_app (x y : List UInt8) : ba x ++ ba y = ba (x ++ y) := by
  apply ByteArray.ext
  unfold ba
  simp
theorem pieces_snoc : ∀ (gs : List (List UInt8)) (l : List TokD) (g : List UInt8) (t : TokD), gs.length = l.length → pieces (gs ++ [g]) (l ++ [t]) = pieces gs l ++ piece g t := by
  intro gs
  induction gs with
  | nil =>
    intro l g t h
    have hl : l = [] := List.eq_nil_of_length_eq_zero h.symm
    subst hl
    simp [pieces]
  | cons a gs ih =>
    intro l g t h
    cases l with
    | nil => cases h
    | cons b l =>
      simp only [List.cons_append, pieces, List.append_assoc]
      rw [ih l g t (by simpa using h)]
/-- A gap as the law makes it. -/
def conv (g : List UInt8) : List UInt8 := g.map fun b => if b.toNat % 2 = 0 then 32 else 9
theorem conv_succ (g : List UInt8) {j : Nat} (h : j < g.length) : conv (g.take (j + 1)) = conv (g.take j) ++ [if g[j].toNat % 2 = 0 then 32 else 9] := by
  unfold conv
  rw [List.take_succ_eq_append_getElem h, List.map_append]; rfl
theorem conv_gap (g : List UInt8) : IsGap (32 :: conv g) := by
  refine ⟨⟨_, rfl⟩, fun b hb => ?_⟩
  rcases List.mem_cons.1 hb with rfl | hb
  · exact .inl rfl
  · obtain ⟨x, _, rfl⟩ := List.mem_map.1 hb
    split
    · exact .inl rfl
    · exact .inr rfl
theorem one_gap : IsGap [32] := conv_gap []
theorem Sl.zero {α : Type} {c : α → List Value} {size : Nat} {w : World} (A : Option Addr) {cap : Nat} (h : cap ≤ maxLen) : Sl c size w (.slice A 0 cap) ([] : List α) (fun _ => True) := ⟨A, cap, rfl, Nat.zero_le _, h, fun h => absurd h (by simp)⟩
theorem piece_no {acc g : List UInt8} {t : TokD} (h : t.kind ≠ 4) : ba acc ++ ba g ++ ba t.text = ba (acc ++ piece g t) := by
  unfold piece
  rw [if_neg h, ba_app, ba_app, List.append_assoc]
theorem piece_end {acc g : List UInt8} {t : TokD} (h : t.kind = 4) : ba acc ++ ba g ++ ⟨#[35, 32]⟩ ++ ba [] ++ ⟨#[120, 32, 48, 48, 55, 32, 65, 10, 10]⟩ = ba (acc ++ piece g t) := by
  rw [show (⟨#[35, 32]⟩ : ByteArray) = ba [35, 32] from rfl, show (⟨#[120, 32, 48, 48, 55, 32, 65, 10, 10]⟩ : ByteArray) = ba [120, 32, 48, 48, 55, 32, 65, 10, 10] from rfl]
  unfold piece
  rw [if_pos h, ba_app, ba_app, ba_app, ba_app]
  simp [remT]
theorem text_len (s : ByteArray) (hs : s.size ≤ 65536) (he : (allD s).2.err = 0) : ∀ t ∈ (allD s).1, t.text.length ≤ s.size := by
  intro t ht
  obtain ⟨i, hi⟩ := List.mem_iff_getElem?.1 ht
  obtain ⟨⟨ln, cl, og, _, _, _, h4⟩, _⟩ := ((places s hs).2 he).1 i t hi
  rw [Nm.len_size] at h4
  rcases h4 with h | h
  · rw [h.2.1]; exact Nat.zero_le _
  · omega
theorem piece_len {g : List UInt8} {t : TokD} (hg : g.length ≤ 31) (ht : t.text.length ≤ 3000) : (piece g t).length ≤ 3042 := by
  unfold piece
  rw [List.length_append]
  split
  · show g.length + 11 ≤ _; omega
  · omega
set_option maxHeartbeats 4000000 in
set_option maxRecDepth 100000 in
theorem lblanks_any (s : ByteArray) (vg : Value) (gaps : List (List UInt8)) (w : World) {P : Nat → Prop} (hg : Sl nc 1 w vg gaps P) (hT : Tabs w) (hL : LibOk w) (hP : Pow w) :
    Calls Tryd.prog 7 #[.string s, vg] w fun e w' => e = .returned (.bool true) ∧ Below w.heap.size w w' := by
  obtain ⟨G, capg, rfl, hg1, hg2⟩ := hg.shape
  have HG := Lib.hid hg
  have HT := Lib.hid hT
  have HL := Lib.hid hL
  have HP := Lib.hid hP
  clear hT hL hP hg
  go_enter Tryd.func7, Tryd.ntmps7
  go_wp2_with fail
  refine (lives_any w HT.out HL.out).mono ?_
  rintro e w1 ⟨rfl, hb1⟩
  have HB1 := Lib.hid hb1
  have HT1 := Lib.hid (HT.out.below hb1)
  have HL1 := Lib.hid (HL.out.below hb1)
  clear hb1
  by_cases hbig : 3000 < s.size
  · have t1 : (3000 : Int) < (s.size : Int) := by omega
    go_wp2_with fail
    go_ret
    exact ⟨rfl, HB1.out⟩
  by_cases hbig2 : 300 < gaps.length
  · have t1 : ¬ (3000 : Int) < (s.size : Int) := by omega
    have t2 : (300 : Int) < (gaps.length : Int) := by omega
    go_wp2_with fail
    go_ret
    exact ⟨rfl, HB1.out⟩
  have t1 : ¬ (3000 : Int) < (s.size : Int) := by omega
  have t2 : ¬ (300 : Int) < (gaps.length : Int) := by omega
  go_wp2_with fail
  refine (all_ok s w1 (by omega) HT1.out HL1.out).mono ?_
  rintro e w2 ⟨v2, rfl, ho2, hb2⟩
  have hct := tok_count s
  have hbl := blanks_all s
  have htx := text_len s (by omega)
  obtain ⟨l, hl⟩ : ∃ l, (allD s).1 = l := ⟨_, rfl⟩
  obtain ⟨⟨fe, fl, fc⟩, hf⟩ : ∃ f, (allD s).2 = f := ⟨_, rfl⟩
  rw [hl] at ho2 hct hbl htx
  rw [hf] at hbl htx ⊢
  dsimp only at hbl htx
  have htx : fe = 0 → ∀ t ∈ l, t.text.length ≤ 3000 := fun h t ht => Nat.le_trans (htx h t ht) (by omega)
  dsimp only [FaultD.v]
  obtain ⟨A1, n1, c1, rfl⟩ := ow_form ho2
  have hn1 : n1 = l.length := by
    obtain ⟨A, cap, e, _⟩ := ho2.shape
    injection e
  have hc1 : c1 ≤ maxLen := by
    obtain ⟨A, cap, e, _, h⟩ := ho2.shape
    injection e with _ _ e
    rw [e]; exact h
  subst hn1
  have HO2 := Lib.hid (ho2.sl tkc_len |>.mono (P' := fun _ => True) fun _ _ => trivial)
  have HB2 := Lib.hid (HB1.out.trans (hb2.mono HB1.out.size))
  have HBL := Lib.hid hbl
  clear ho2 hb2 hl hf hbl
  by_cases he : fe = 0
  · have e0 : (fe == 0) = true := beq_iff_eq.2 he
    have e1 : (fe != 0) = false := by rw [bne, e0]; rfl
    have HE := Lib.hid he
    have HTX := Lib.hid (htx he)
    clear he htx
    have t3 : ¬ (l.length : Int) < 0 := by omega
    obtain ⟨wA, hwA⟩ : ∃ wA, w2.alloc (.cells #[.int .i64 fe, .int .i64 fl, .int .i64 fc] 26) = wA := ⟨_, rfl⟩
    have HBA := Lib.hid (show Below w.heap.size w wA by rw [← hwA]; exact HB2.out.alloc HB2.out.size _)
    have HSA := Lib.hid (show Sl tkc 5 wA (.slice A1 l.length c1) l (fun _ => True) by rw [← hwA]; exact HO2.out.alloc _)
    have HGA := Lib.hid (HG.out.below_ HBA.out)
    have x0 : wA.cell? ⟨w2.heap.size, 0, none⟩ = some (.int .i64 fe) := by rw [← hwA]; exact Lib.cell_of_heap (heap_alloc_new _ _) 0
    go_wp2_with fail
    go_loopg [8, 7] l.length (fun gg i v wr => ∃ k : Nat, k ≤ l.length ∧ l.length - k ≤ gg ∧ i = .int .i64 k ∧ (∃ gs acc, v = .string (ba acc) ∧ gs.length = k ∧ (∀ g ∈ gs, IsGap g) ∧ acc = pieces gs (l.take k) ∧ acc.length ≤ k * 3042) ∧ Below wA.heap.size wA wr)
    case atStart => exact ⟨0, Nat.zero_le _, by omega, rfl, ⟨[], [], rfl, rfl, (fun g hg => by cases hg), rfl, Nat.zero_le _⟩, Below.refl _ _⟩
    case round =>
      obtain ⟨k, hk, hgg, rfl, ⟨gs, acc, rfl, hgs, hgap, hacc, hlen⟩, hbw⟩ := hrel
      have HGS := Lib.hid hgs
      have HGAP := Lib.hid hgap
      have HACC := Lib.hid hacc
      have HBW := Lib.hid hbw
      clear hgs hgap hacc
      by_cases hkl : k < l.length
      · obtain ⟨b1, o1, cc, ee1, _, _, hl1, _, hx⟩ := (HSA.out.below_ hbw).at_ hkl
        injection ee1 with ee1 ee2 ee3
        subst ee1
        have q1 : (0 : Int) ≤ (k : Int) := by omega
        have q2 : (k : Int) < (l.length : Int) := by omega
        have hxt := HTX.out _ (List.getElem_mem hkl)
        obtain ⟨x, hx9⟩ : ∃ x, l[k] = x := ⟨_, rfl⟩
        rw [hx9] at hx hxt
        have E := Lib.hid (show ∀ g, IsGap g → g.length ≤ 31 → ∃ gs2 acc2, ba (acc ++ piece g x) = ba acc2 ∧ gs2.length = k + 1 ∧ (∀ g ∈ gs2, IsGap g) ∧ acc2 = pieces gs2 (l.take (k + 1)) ∧ acc2.length ≤ (k + 1) * 3042 from fun g hg hg31 => by
          refine ⟨gs ++ [g], acc ++ piece g x, rfl, by rw [List.length_append, HGS.out]; rfl, fun y hy => ?_, ?_, ?_⟩
          · rcases List.mem_append.1 hy with hy | hy
            · exact HGAP.out y hy
            · rw [List.mem_singleton] at hy; subst hy; exact hg
          · rw [List.take_succ_eq_append_getElem hkl, pieces_snoc _ _ _ _ (by rw [HGS.out, List.length_take]; omega), HACC.out, hx9]
          · have := piece_len hg31 hxt
            rw [List.length_append]; omega)
        have hx0 : wr.cell? ⟨b1, o1 + k * 5, none⟩ = some (.int .i64 x.kind) := by simpa using hx 0 _ rfl
        have hx1 : wr.cell? ⟨b1, o1 + k * 5 + 1, none⟩ = some (.string (ba x.text)) := by simpa using hx 1 _ rfl
        have hs1 : (ba acc).size ≤ 20000000 := by rw [ba_size]; omega
        have hs2 : (ba x.text).size ≤ 3000 := by rw [ba_size]; exact hxt
        clear hx hx9 ee2 ee3 hbw x0 hxt
        obtain ⟨wo, rfl⟩ : ∃ wo, wo = wr := ⟨_, rfl⟩
        by_cases hkg : k < gaps.length
        · have r2 : (k : Int) < (gaps.length : Int) := by omega
          obtain ⟨bg, og, cg, eg1, _, _, hlg, _, hy⟩ := (HGA.out.below_ HBW.out).at_ hkg
          injection eg1 with eg1 eg2 eg3
          subst eg1
          obtain ⟨gx, hgx⟩ : ∃ gx, gaps[k] = gx := ⟨_, rfl⟩
          rw [hgx] at hy
          have hy0 : wo.cell? ⟨bg, og + k, none⟩ = some (.string (ba gx)) := by simpa using hy 0 _ rfl
          have hsz : (ba gx).size = gx.length := ba_size gx
          clear hy eg2 eg3 hgx
          by_cases h30 : gx.length ≤ 30
          · have r3 : (gx.length : Int) ≤ 30 := by omega
            have r4 : ¬ (gx.length : Int) < 0 := by omega
            go_wp2_with fail
            go_loopg [10, 9] gx.length (fun gg i v wx => ∃ j : Nat, j ≤ gx.length ∧ gx.length - j ≤ gg ∧ i = .int .i64 j ∧ v = .string (ba (32 :: conv (gx.take j))) ∧ wo = wx)
            case atStart => exact ⟨0, Nat.zero_le _, by omega, rfl, rfl, rfl⟩
            case round =>
              obtain ⟨j, hj, hjg, rfl, rfl, rfl⟩ := hrel
              by_cases hjk : j < gx.length
              · have hjs : j < (ba gx).size := by rw [hsz]; exact hjk
                have p1 : (0 : Int) ≤ (j : Int) := by omega
                have p2 : (j : Int) < (gx.length : Int) := by omega
                obtain ⟨y, hyy⟩ : ∃ y, (ba gx)[j] = y := ⟨_, rfl⟩
                have hyg : gx[j]'hjk = y := by
                  rw [← hyy, ← getD_byte (ba gx) hjs, ba_list, List.getD_eq_getElem?_getD, List.getElem?_eq_getElem hjk]; rfl
                have hs3 : (ba (32 :: conv (gx.take j))).size ≤ 31 := by
                  rw [ba_size]
                  unfold conv
                  rw [List.length_cons, List.length_map, List.length_take]; omega
                have CS := Lib.hid (show conv (gx.take (j + 1)) = conv (gx.take j) ++ [if y.toNat % 2 = 0 then 32 else 9] by
                  have hcs := conv_succ gx hjk
                  generalize gx[j]'hjk = y2 at hyg hcs
                  subst hyg
                  exact hcs)
                clear hyg
                by_cases hy2 : y.toNat % 2 = 0
                · have t10 : ((y.toNat : Int) % 2 == 0) = true := beq_iff_eq.2 (by omega)
                  have CS2 := CS.out
                  rw [if_pos hy2] at CS2
                  have CS3 := Lib.hid CS2
                  clear hy2 CS CS2
                  go_wp2_with fail
                  go_roundg (gx.length - (j + 1))
                  case measure => omega
                  case rel => exact ⟨j + 1, by omega, by omega, by go_num, by rw [CS3.out, show (⟨#[32]⟩ : ByteArray) = ba [32] from rfl, ba_app]; rfl, rfl⟩
                · have t10 : ((y.toNat : Int) % 2 == 0) = false := beq_eq_false_iff_ne.2 (by omega)
                  have CS2 := CS.out
                  rw [if_neg hy2] at CS2
                  have CS3 := Lib.hid CS2
                  clear hy2 CS CS2
                  go_wp2_with fail
                  go_roundg (gx.length - (j + 1))
                  case measure => omega
                  case rel => exact ⟨j + 1, by omega, by omega, by go_num, by rw [CS3.out, show (⟨#[9]⟩ : ByteArray) = ba [9] from rfl, ba_app]; rfl, rfl⟩
              · have hjj : j = gx.length := by omega
                have p2 : ¬ (j : Int) < (gx.length : Int) := by omega
                have HGP := Lib.hid (conv_gap (gx.take j))
                have HG31 := Lib.hid (show (32 :: conv (gx.take j)).length ≤ 31 by
                  unfold conv
                  rw [List.length_cons, List.length_map, List.length_take]; omega)
                have hs3 : (ba (32 :: conv (gx.take j))).size ≤ 31 := by rw [ba_size]; exact HG31.out
                clear hjj
                by_cases h4 : x.kind = 4
                · have k1 : (x.kind == 4) = true := beq_iff_eq.2 h4
                  have HK := Lib.hid h4
                  clear h4
                  go_wp2_with fail
                  refine (text_any wo _ [] (Sl.zero _ hc1) (fun t ht => by cases ht) (Nat.zero_le _) (HP.out.below (HBA.out.trans (HBW.out.mono HBA.out.size)))).mono ?_
                  rintro e w7 ⟨rfl, hb7⟩
                  dsimp only [textF]
                  have hs0 : (ba ([] : List UInt8)).size = 0 := rfl
                  have HB7 := Lib.hid (HBW.out.trans (hb7.mono HBW.out.size))
                  clear hb7
                  go_wp2_with fail
                  go_roundg (l.length - (k + 1))
                  case measure => omega
                  case rel =>
                    obtain ⟨gs2, acc2, e1, e2, e3, e4, e5⟩ := E.out _ HGP.out HG31.out
                    exact ⟨k + 1, by omega, by omega, by go_num, ⟨gs2, acc2, congrArg Value.string ((piece_end HK.out).trans e1), e2, e3, e4, e5⟩, HB7.out⟩
                · have k1 : (x.kind == 4) = false := beq_eq_false_iff_ne.2 h4
                  have HK := Lib.hid h4
                  clear h4
                  go_wp2_with fail
                  go_roundg (l.length - (k + 1))
                  case measure => omega
                  case rel =>
                    obtain ⟨gs2, acc2, e1, e2, e3, e4, e5⟩ := E.out _ HGP.out HG31.out
                    exact ⟨k + 1, by omega, by omega, by go_num, ⟨gs2, acc2, congrArg Value.string ((piece_no HK.out).trans e1), e2, e3, e4, e5⟩, HBW.out⟩
          · have r3 : ¬ (gx.length : Int) ≤ 30 := by omega
            have HGP := Lib.hid one_gap
            have HG31 := Lib.hid (show ([32] : List UInt8).length ≤ 31 by decide)
            by_cases h4 : x.kind = 4
            · have k1 : (x.kind == 4) = true := beq_iff_eq.2 h4
              have HK := Lib.hid h4
              clear h4
              go_wp2_with fail
              refine (text_any wo _ [] (Sl.zero _ hc1) (fun t ht => by cases ht) (Nat.zero_le _) (HP.out.below (HBA.out.trans (HBW.out.mono HBA.out.size)))).mono ?_
              rintro e w7 ⟨rfl, hb7⟩
              dsimp only [textF]
              have hs0 : (ba ([] : List UInt8)).size = 0 := rfl
              have HB7 := Lib.hid (HBW.out.trans (hb7.mono HBW.out.size))
              clear hb7
              go_wp2_with fail
              go_roundg (l.length - (k + 1))
              case measure => omega
              case rel =>
                obtain ⟨gs2, acc2, e1, e2, e3, e4, e5⟩ := E.out _ HGP.out HG31.out
                exact ⟨k + 1, by omega, by omega, by go_num, ⟨gs2, acc2, congrArg Value.string ((piece_end HK.out).trans e1), e2, e3, e4, e5⟩, HB7.out⟩
            · have k1 : (x.kind == 4) = false := beq_eq_false_iff_ne.2 h4
              have HK := Lib.hid h4
              clear h4
              go_wp2_with fail
              go_roundg (l.length - (k + 1))
              case measure => omega
              case rel =>
                obtain ⟨gs2, acc2, e1, e2, e3, e4, e5⟩ := E.out _ HGP.out HG31.out
                exact ⟨k + 1, by omega, by omega, by go_num, ⟨gs2, acc2, congrArg Value.string ((piece_no HK.out).trans e1), e2, e3, e4, e5⟩, HBW.out⟩
        · have r2 : ¬ (k : Int) < (gaps.length : Int) := by omega
          have HGP := Lib.hid one_gap
          have HG31 := Lib.hid (show ([32] : List UInt8).length ≤ 31 by decide)
          by_cases h4 : x.kind = 4
          · have k1 : (x.kind == 4) = true := beq_iff_eq.2 h4
            have HK := Lib.hid h4
            clear h4
            go_wp2_with fail
            refine (text_any wo _ [] (Sl.zero _ hc1) (fun t ht => by cases ht) (Nat.zero_le _) (HP.out.below (HBA.out.trans (HBW.out.mono HBA.out.size)))).mono ?_
            rintro e w7 ⟨rfl, hb7⟩
            dsimp only [textF]
            have hs0 : (ba ([] : List UInt8)).size = 0 := rfl
            have HB7 := Lib.hid (HBW.out.trans (hb7.mono HBW.out.size))
            clear hb7
            go_wp2_with fail
            go_roundg (l.length - (k + 1))
            case measure => omega
            case rel =>
              obtain ⟨gs2, acc2, e1, e2, e3, e4, e5⟩ := E.out _ HGP.out HG31.out
              exact ⟨k + 1, by omega, by omega, by go_num, ⟨gs2, acc2, congrArg Value.string ((piece_end HK.out).trans e1), e2, e3, e4, e5⟩, HB7.out⟩
          · have k1 : (x.kind == 4) = false := beq_eq_false_iff_ne.2 h4
            have HK := Lib.hid h4
            clear h4
            go_wp2_with fail
            go_roundg (l.length - (k + 1))
            case measure => omega
            case rel =>
              obtain ⟨gs2, acc2, e1, e2, e3, e4, e5⟩ := E.out _ HGP.out HG31.out
              exact ⟨k + 1, by omega, by omega, by go_num, ⟨gs2, acc2, congrArg Value.string ((piece_no HK.out).trans e1), e2, e3, e4, e5⟩, HBW.out⟩
      · have hkk : k = l.length := by omega
        have t6 : ¬ (k : Int) < (l.length : Int) := by omega
        have hpc : acc = pieces gs l := by rw [HACC.out, hkk, List.take_of_length_le (Nat.le_refl _)]
        have HPC := Lib.hid hpc
        have hgl := HGS.out
        rw [hkk] at hgl
        have HGL := Lib.hid hgl
        have hsz : (ba acc).size = acc.length := ba_size acc
        obtain ⟨wo, rfl⟩ : ∃ wo, wo = wr := ⟨_, rfl⟩
        have HWO := Lib.hid (HBA.out.trans (HBW.out.mono HBA.out.size))
        have HSO := Lib.hid (HSA.out.below_ HBW.out)
        clear hkk hpc hgl x0 hbw
        go_wp2_with fail
        by_cases hu : acc.length ≤ 65536
        · refine (all_ok _ wo (by rw [hsz]; exact hu) (HT.out.below HWO.out) (HL.out.below HWO.out)).mono ?_
          rintro e w7 ⟨v7, rfl, ho7, hb7⟩
          obtain ⟨b1, b2⟩ := HBL.out (ba acc) (by omega) (by rw [hsz]; exact hu) HE.out gs HGL.out HGAP.out (by rw [ba_list]; exact HPC.out)
          rw [b1]
          obtain ⟨m, hm⟩ : ∃ m, (allD (ba acc)).1 = m := ⟨_, rfl⟩
          rw [hm] at ho7 b2
          dsimp only [FaultD.v]
          obtain ⟨A7, n7, c7, rfl⟩ := ow_form ho7
          have HO7 := Lib.hid (ho7.sl tkc_len |>.mono (P' := fun _ => True) fun _ _ => trivial)
          have HS7 := Lib.hid (HSO.out.below_ hb7)
          have HB7 := Lib.hid (HWO.out.trans (hb7.mono HWO.out.size))
          have HK := Lib.hid b2
          clear ho7 hb7 b1 b2 hm
          have t7 : ¬ (65536 : Int) < (acc.length : Int) := by omega
          have hfe := fault_yes 0 0 0 0 0 0 rfl
          go_wp2_with fail
          refine (like_any _ _ l m _ (HS7.out.alloc _) (HO7.out.alloc _) (by omega)).mono ?_
          rintro e w8 ⟨rfl, hb8⟩
          rw [decide_eq_true HK.out.symm]
          have HB8 := Lib.hid ((HB7.out.alloc HB7.out.size _).trans (hb8.mono (by have := HB7.out.size; simp; omega)))
          clear hb8
          go_wp2_with fail
          go_ret
          exact ⟨rfl, HB8.out⟩
        · refine (all_big _ wo (by rw [hsz]; exact hu)).mono ?_
          rintro e w7 ⟨rfl, hb7⟩
          obtain ⟨⟨g1, g2, g3⟩, hfc⟩ : ∃ f, (allD (ba acc)).2 = f := ⟨_, rfl⟩
          rw [hfc]
          dsimp only [FaultD.v]
          have HB7 := Lib.hid (HWO.out.trans (hb7.mono HWO.out.size))
          have t7 : (65536 : Int) < (acc.length : Int) := by omega
          clear hb7 hfc
          go_wp2_with fail
          go_ret
          exact ⟨rfl, HB7.out.alloc HB7.out.size _⟩
  · have e0 : (fe == 0) = false := beq_eq_false_iff_ne.2 he
    have e1 : (fe != 0) = true := by rw [bne, e0]; rfl
    clear he
    go_wp2_with fail
    go_ret
    exact ⟨rfl, HB2.out.alloc HB2.out.size _⟩
end Go.Proofs.YtongaakijljnaaaDoor
