/- Package sheet: the walk of the reader's all. -/
import Derived.Test.YteonefgbdphmiaaGreatDoorWe
namespace Go.Proofs.YteonefgbdphmiaaGreatDoor
open Go.RowKit
/-- The method that reads a line: its contract. -/
theorem smeth_any (B b : Nat) (L : List TokD) (i : Nat) (x : SheetM) (k : List UInt8) (w : World) (h : SOk b L i x.xv w) (hs : ShAt B b x w) (hm : SmallS x) (hk : (nowD L (rd i)).kind = 2) (hkk : k ∈ keysL) :
    ∃ f, fnOf k = .func (.func f) #[] #[] ∧ (f = 90 ∨ f = 91 ∨ f = 92 ∨ f = 93 ∨ f = 94 ∨ f = 95) ∧ Calls Tryz.prog f #[.pointer (some ⟨b, 0, none⟩)] w (GotT B b L x w (midT L i x.d k)) := by
  unfold keysL at hkk
  simp only [List.mem_cons, List.not_mem_nil, or_false] at hkk
  rcases hkk with rfl | rfl | rfl | rfl | rfl | rfl
  · exact ⟨_, rfl, by simp, sstop_m B b L i x w h hs hm hk⟩
  · exact ⟨_, rfl, by simp, spath_m B b L i x w h hs hm hk⟩
  · exact ⟨_, rfl, by simp, sdoor_m B b L i x w h hs hm hk⟩
  · exact ⟨_, rfl, by simp, sroute_m B b L i x w h hs hm hk⟩
  · exact ⟨_, rfl, by simp, strip_m B b L i x w h hs hm hk⟩
  · exact ⟨_, rfl, by simp, shazard_m B b L i x w h hs hm hk⟩
theorem fn_nil (W : World) : (Go.binOp BinOp.eql 105 .nilFunc .nilFunc).run Tryz.prog W = .ok (.bool true) W := by kernel_rfl
theorem fn_st (W : World) : (Go.binOp BinOp.eql 105 (.func (.func 90) #[] #[]) .nilFunc).run Tryz.prog W = .ok (.bool false) W := by kernel_rfl
theorem fn_pa (W : World) : (Go.binOp BinOp.eql 105 (.func (.func 91) #[] #[]) .nilFunc).run Tryz.prog W = .ok (.bool false) W := by kernel_rfl
theorem fn_do (W : World) : (Go.binOp BinOp.eql 105 (.func (.func 92) #[] #[]) .nilFunc).run Tryz.prog W = .ok (.bool false) W := by kernel_rfl
theorem fn_ro (W : World) : (Go.binOp BinOp.eql 105 (.func (.func 93) #[] #[]) .nilFunc).run Tryz.prog W = .ok (.bool false) W := by kernel_rfl
theorem fn_tr (W : World) : (Go.binOp BinOp.eql 105 (.func (.func 94) #[] #[]) .nilFunc).run Tryz.prog W = .ok (.bool false) W := by kernel_rfl
theorem fn_ha (W : World) : (Go.binOp BinOp.eql 105 (.func (.func 95) #[] #[]) .nilFunc).run Tryz.prog W = .ok (.bool false) W := by kernel_rfl
theorem meth_ne (f : FuncId) (hf : f = 90 ∨ f = 91 ∨ f = 92 ∨ f = 93 ∨ f = 94 ∨ f = 95) (W : World) :
    (Go.binOp BinOp.eql 105 (.func (.func f) #[] #[]) .nilFunc).run Tryz.prog W = .ok (.bool false) W := by
  rcases hf with rfl | rfl | rfl | rfl | rfl | rfl
  · exact fn_st W
  · exact fn_pa W
  · exact fn_do W
  · exact fn_ro W
  · exact fn_tr W
  · exact fn_ha W
theorem en_st (args : Array Value) (W : World) : (callFunc 90 args).run Tryz.prog W = .ok (.enter 90 args) W := by kernel_rfl
theorem en_pa (args : Array Value) (W : World) : (callFunc 91 args).run Tryz.prog W = .ok (.enter 91 args) W := by kernel_rfl
theorem en_do (args : Array Value) (W : World) : (callFunc 92 args).run Tryz.prog W = .ok (.enter 92 args) W := by kernel_rfl
theorem en_ro (args : Array Value) (W : World) : (callFunc 93 args).run Tryz.prog W = .ok (.enter 93 args) W := by kernel_rfl
theorem en_tr (args : Array Value) (W : World) : (callFunc 94 args).run Tryz.prog W = .ok (.enter 94 args) W := by kernel_rfl
theorem en_ha (args : Array Value) (W : World) : (callFunc 95 args).run Tryz.prog W = .ok (.enter 95 args) W := by kernel_rfl
theorem meth_enter (f : FuncId) (hf : f = 90 ∨ f = 91 ∨ f = 92 ∨ f = 93 ∨ f = 94 ∨ f = 95) (args : Array Value) (W : World) :
    (callFunc f args).run Tryz.prog W = .ok (.enter f args) W := by
  rcases hf with rfl | rfl | rfl | rfl | rfl | rfl
  · exact en_st args W
  · exact en_pa args W
  · exact en_do args W
  · exact en_ro args W
  · exact en_tr args W
  · exact en_ha args W
/-- A line, read from a token on. -/
theorem line_mid {L : List TokD} {i : Nat} {d : SheetD} (h2 : (nowD L (rd i)).kind = 2) (hk : (nowD L (rd i)).text ∈ keysL) :
    (lineD L (rd i) d).2 = (midT L i d (nowD L (rd i)).text).2 ∧ (lineD L (rd i) d).1 = (if fullD d (nowD L (rd i)).text = true then (midT L i d (nowD L (rd i)).text).1 else (takeD L (midT L i d (nowD L (rd i)).text).1 4 []).1) := by
  unfold lineD midT
  rw [if_pos ⟨h2, hk⟩]
  split
  · exact ⟨rfl, rfl⟩
  · exact ⟨rfl, rfl⟩
theorem line_bad {L : List TokD} {i : Nat} {d : SheetD} (h : ¬ ((nowD L (rd i)).kind = 2 ∧ (nowD L (rd i)).text ∈ keysL)) : lineD L (rd i) d = (failD (rd i) 7 (nowD L (rd i)), d) := by
  unfold lineD
  rw [if_neg h]
/-- What the reader leaves. -/
theorem end_take {L : List TokD} {j : Nat} (h : (nowD L (rd j)).kind = 4) : (takeD L (rd j) 4 []).1 = rd (j + 1) := by rw [take_rd_ok h (fun e => absurd e (by decide))]
theorem end_take_bad {L : List TokD} {j : Nat} (h : (nowD L (rd j)).kind ≠ 4) : (takeD L (rd j) 4 []).1 = failD (rd j) 7 (nowD L (rd j)) := by rw [take_rd_bad (.inl h)]
def seven (x : SheetM) : XV := x.xv
set_option maxHeartbeats 16000000 in
set_option maxRecDepth 100000 in
theorem sall_any (B b : Nat) (L : List TokD) (w : World) (hL : EndsE L) (h : SOk b L 0 zeroM.xv w) (hs : ShAt B b zeroM w) (r : Rd × SheetD)
    (hr : parseRun L (L.length + 1) (takeD L (afterD L (rd 0) kHorizon).1 4 []).1 { zeroD with hor := (afterD L (rd 0) kHorizon).2 } = r) :
    Calls Tryz.prog 35 #[.pointer (some ⟨b, 0, none⟩)] w fun e w' => (∃ j, ∃ x' : SheetM, r.1 = rd j ∧ x'.d = r.2 ∧ e = .returned (.tuple #[]) ∧ SOk b L j x'.xv w' ∧ ShAt B b x' w' ∧ Below b w w') ∨ (r.1.e ≠ 0 ∧ e = .panicked (give r.1) ∧ Below b w w') := by
  have HLT := Lib.hid h.lt
  have HL := Lib.hid hL
  have HS := Lib.hid hs
  have hlen := h.len
  have hc := sbehind_any b L 0 zeroM.xv kHorizon w h
  obtain ⟨⟨s1, n1⟩, h1⟩ : ∃ q, afterD L (rd 0) kHorizon = q := ⟨_, rfl⟩
  rw [h1] at hc hr
  dsimp only at hc hr
  rw [show ba kHorizon = ⟨#[104, 111, 114, 105, 122, 111, 110]⟩ from rfl] at hc
  have HCC := Lib.hid hc
  have HR := Lib.hid hr
  have H1 := Lib.hid h1
  have HFL := Lib.hid (show ∀ j, s1 = rd j → j < L.length from fun j hj => by
    have := after_lt (L := L) (s := rd 0) (k := kHorizon) hL (by rw [h1, hj]; rfl)
    rw [h1, hj] at this
    exact this)
  clear hc hr h1 h hs hL
  go_enter Tryz.func35, Tryz.ntmps35
  go_wp2_with fail
  refine got_elim HCC.out ?_ ?_
  · intro w9 he hk
    have hb : r.1 = s1 := by rw [← HR.out, takeD_bad he, parseRun_bad he]
    exact ⟨rfl, .inr ⟨by rw [hb]; exact he, by rw [hb], hk.below⟩⟩
  rintro j1 w1 rfl ho hk
  have HO1 := Lib.hid ho
  have HK1 := Lib.hid hk
  have HS1 := Lib.hid (HS.out.keep hk)
  have HJ := Lib.hid (HFL.out j1 rfl)
  clear ho hk HCC HFL H1
  obtain ⟨y1, y2⟩ := HO1.out.cellv 1 (.int .i64 0) (fun v => rfl)
  go_upto_region 1 with fail
  clear y1 y2
  obtain ⟨w2, hw⟩ : ∃ w9, w1.setCell ⟨b, 1, none⟩ (.int .i64 n1) = w9 := ⟨_, rfl⟩
  have HO2 := Lib.hid (show SOk b L j1 ({ zeroM with hor := n1 } : SheetM).xv w2 by rw [← hw]; exact HO1.out.put 1 _ (fun v => rfl))
  have HS2 := Lib.hid (show ShAt B b ({ zeroM with hor := n1 } : SheetM) w2 by
    rw [← hw]
    have hz := HS1.out.keepB (w' := w1.setCell ⟨b, 1, none⟩ (.int .i64 n1)) (by simp [World.setCell]) fun k hk _ => heap_setCell_other w1 ⟨b, 1, none⟩ k _ (by have := HS1.out.hb; show k ≠ b; omega)
    exact ⟨hz.s, hz.p, hz.d, hz.r, hz.t, hz.h, hz.each, hz.hb, hz.hB⟩)
  have HB2 := Lib.hid (show Below b w w2 by rw [← hw]; exact HK1.out.below.setCell (p := ⟨b, 1, none⟩) (Nat.le_refl _) _)
  try rw [hw]
  clear hw HO1 HS1 HK1 HS
  by_cases h4 : (nowD L (rd j1)).kind = 4
  · have hr2 := HR.out
    rw [end_take h4] at hr2
    have HR2 := Lib.hid hr2
    have HT := Lib.hid (stake_ok b L j1 ({ zeroM with hor := n1 } : SheetM).xv 4 w2 HO2.out h4 HJ.out)
    clear h4 hr2
    go_wp2_with fail
    refine HT.out.mono ?_
    rintro e w3 ⟨rfl, ho, hk⟩
    dsimp only [tkc]
    have HO3 := Lib.hid ho
    have HS3 := Lib.hid (HS2.out.keep hk)
    have HB3 := Lib.hid (HB2.out.trans hk.below)
    clear ho hk HT
    go_wp2_with fail
    refine (reads_any w3).mono ?_
    rintro e w4 ⟨rfl, hm, hb⟩
    obtain ⟨m, hmm⟩ : ∃ m, w3.heap.size = m := ⟨_, rfl⟩
    have HO := Lib.hid (HO3.out.new hb)
    have HS4 := Lib.hid (HS3.out.keep (Keep.of hb (Nat.le_of_lt HO3.out.lt)))
    have HB4 := Lib.hid (HB3.out.trans (hb.mono (Nat.le_of_lt HO3.out.lt)))
    have HA4 := Lib.hid (show apartP ({ zeroM with hor := n1 } : SheetM) 0 m from by have := HS3.out.apart (k := m) (by rw [hmm]; exact Nat.le_refl _); exact ⟨Nat.zero_le _, this.2⟩)
    have HMB := Lib.hid (show b < m by rw [← hmm]; exact HO3.out.lt)
    rw [hmm] at hm ⊢
    have HM := Lib.hid hm
    have HGG := Lib.hid HO3.out.at_
    clear hm hb hmm HO3 HS3 HB3 HO2 HS2 HB2
    go_wp2_with fail
    go_loopg [3] (L.length + 1) (fun gg v3 wr => ∃ (j : Nat) (x : SheetM), SOk b L j x.xv wr ∧ ShAt B b x wr ∧ SmallD x.d ∧ Hid (MapR m wr ∧ apartP x 0 m) ∧ Below b w wr ∧ L.length - j < gg ∧ parseRun L gg (rd j) x.d = r)
    case atStart => exact ⟨j1 + 1, { zeroM with hor := n1 }, HO.out, HS4.out, ⟨Nat.zero_le _, Nat.zero_le _, Nat.zero_le _, Nat.zero_le _, Nat.zero_le _, Nat.zero_le _⟩, Lib.hid ⟨HM.out, HA4.out⟩, HB4.out, by omega, HR2.out⟩
    case round =>
      clear HO HS4 HB4 HA4 HM HGG HR2 HR HJ
      obtain ⟨j, x, ho, hs, hsm, hmp, hbw, hgg, hrun⟩ := hrel
      have HO := Lib.hid ho
      have HS := Lib.hid hs
      have HSM := Lib.hid hsm
      have HB := Lib.hid hbw
      have HRUN := Lib.hid hrun
      obtain ⟨n, rfl⟩ : ∃ n, gk = n + 1 := ⟨gk - 1, by omega⟩
      have HGK := Lib.hid hgg
      clear ho hs hsm hbw hrun hgg
      obtain ⟨v, hSv, hRv⟩ := HO.out.S
      obtain ⟨A, c, rfl, _, _⟩ := hSv.shape
      have x0 : wr.cell? ⟨b, 0, none⟩ = some (.slice A (L.drop j).length c) := Lib.cell_of_heap hRv 0
      clear hSv hRv
      by_cases hj : j < L.length
      · have hgo := HRUN.out
        rw [parseRun_go (L := L) rfl hj] at hgo
        have HGO := Lib.hid hgo
        clear hgo
        have q1 : decide ((0 : Int) < ((L.drop j).length : Int)) = true := decide_eq_true (by rw [List.length_drop]; omega)
        have q2 : (0 : Int) < ((L.drop j).length : Int) := by rw [List.length_drop]; omega
        generalize (L.drop j).length = z at x0 q1 q2
        have hnow := snow_any b L j x.xv
        obtain ⟨t, ht⟩ : ∃ t, nowD L (rd j) = t := ⟨_, rfl⟩
        rw [ht] at hnow
        dsimp only [tkc] at hnow
        have HNOW := Lib.hid hnow
        have hf0 := fd0 t
        have hf1 := fd1 t
        clear hnow
        have HTT := Lib.hid ht
        clear ht
        have HLJ := Lib.hid (fun (d : SheetD) (h : (lineD L (rd j) d).1.e = 0) => lineD_at (L := L) (s := rd j) (d := d) rfl h)
        by_cases hin : t.text ∈ keysL
        · have HIN := Lib.hid hin
          clear hin
          go_wp2_with fail
          refine (HNOW.out wr HO.out).mono ?_
          rintro e w5 ⟨rfl, hb⟩
          have HO5 := Lib.hid (HO.out.new hb)
          have HK5 := Lib.hid (Keep.of hb (Nat.le_of_lt HO.out.lt))
          have HM5 := Lib.hid (hmp.out.1.keep (hb.block m (by obtain ⟨es, c, h1, _⟩ := hmp.out.1; exact (Array.getElem?_eq_some_iff.1 h1).1)))
          clear hb x0
          have hlk := map_yes HM5.out HIN.out
          by_cases k2 : t.kind = 2
          · have c1 : (t.kind == 2) = true := beq_iff_eq.2 k2
            have c2 : (t.kind != 2) = false := by rw [bne, c1]; rfl
            have hsm := fun w9 h9 s9 => smeth_any B b L j x t.text w9 h9 s9 HSM.out.s' (by rw [HTT.out]; exact k2) HIN.out
            obtain ⟨f, hfn, hff, _⟩ := hsm wr HO.out HS.out
            have hne := meth_ne f hff
            have hen := meth_enter f hff
            have HCALL := Lib.hid (fun w9 h9 s9 => show Calls Tryz.prog f #[.pointer (some ⟨b, 0, none⟩)] w9 (GotT B b L x w9 (midT L j x.d t.text)) by
              obtain ⟨f2, hfn2, _, hc⟩ := hsm w9 h9 s9
              rw [hfn] at hfn2
              injection hfn2 with e1
              injection e1 with e1
              rw [e1]; exact hc)
            rw [hfn] at hlk
            have HLM := Lib.hid (line_mid (L := L) (i := j) (d := x.d) (by rw [HTT.out]; exact k2) (by rw [HTT.out]; exact HIN.out))
            rw [HTT.out] at HLM
            clear hsm hff hfn k2
            go_wp2_with fail
            refine (HNOW.out w5 HO5.out).mono ?_
            rintro e w6 ⟨rfl, hb⟩
            have HO6 := Lib.hid (HO5.out.new hb)
            have HK6 := Lib.hid (HK5.out.trans (Keep.of hb (Nat.le_of_lt HO5.out.lt)))
            have HM6 := Lib.hid (HM5.out.keep (hb.block m (by obtain ⟨es, c, h1, _⟩ := HM5.out; exact (Array.getElem?_eq_some_iff.1 h1).1)))
            clear hb hlk HO5 HK5 HM5
            go_wp2_with fail
            refine (HCALL.out w6 HO6.out (HS.out.keep HK6.out)).mono ?_
            rintro e w7 (⟨j2, x2, hj2, hd2, rfl, ho, hs, hb, ha⟩ | ⟨he, rfl, hb⟩)
            · have hnf : ¬ fullD x.d t.text = true := fun hf => by
                unfold midT at hj2
                rw [if_pos hf] at hj2
                dsimp only at hj2
                have := fail_rd L j 3 (by decide)
                rw [hj2] at this
                exact this rfl
              have hlt : j2 < L.length := by
                unfold midT at hj2
                rw [if_neg hnf] at hj2
                have := thing_lt (s := rd (j + 1)) (d := x.d) (k := t.text) HL.out (by rw [hj2]; rfl)
                rw [hj2] at this
                exact this
              have hl1 : (lineD L (rd j) x.d).1 = (takeD L (rd j2) 4 []).1 := by rw [HLM.out.2, if_neg hnf, hj2]
              have hl2 : (lineD L (rd j) x.d).2 = x2.d := by rw [HLM.out.1, hd2]
              have HL1 := Lib.hid hl1
              have HL2 := Lib.hid hl2
              have HLT2 := Lib.hid hlt
              have HO7 := Lib.hid ho
              have HS7 := Lib.hid hs
              have HB7 := Lib.hid (HB.out.trans (HK6.out.below.trans hb))
              have hm7 := ha m (by obtain ⟨es, c, h1, _⟩ := HM6.out; exact (Array.getElem?_eq_some_iff.1 h1).1) (by have := HMB.out; omega) hmp.out.2
              have HM7 := Lib.hid (show MapR m w7 ∧ apartP x2 0 m from ⟨HM6.out.keep hm7.1, hm7.2⟩)
              clear hj2 hd2 ho hs hb ha hnf hlt hl1 hl2 hm7 HO6 HK6 HM6 HCALL HLM HTT HIN hmp HS HB HO
              by_cases h4 : (nowD L (rd j2)).kind = 4
              · have HT := Lib.hid (stake_ok b L j2 x2.xv 4 w7 HO7.out h4 HLT2.out)
                have HE := Lib.hid (end_take h4)
                clear h4
                go_wp2_with fail
                refine HT.out.mono ?_
                rintro e w8 ⟨rfl, ho, hk⟩
                dsimp only [tkc]
                have HO8 := Lib.hid ho
                have HS8 := Lib.hid (HS7.out.keep hk)
                have HB8 := Lib.hid (HB7.out.trans hk.below)
                have HM8 := Lib.hid (show MapR m w8 ∧ apartP x2 0 m from ⟨HM7.out.1.keep (hk.block m (by obtain ⟨es, c, h1, _⟩ := HM7.out.1; exact (Array.getElem?_eq_some_iff.1 h1).1) (by have := HMB.out; omega)), HM7.out.2⟩)
                have HSM2 := Lib.hid (show SmallD x2.d by rw [← HL2.out]; exact lineD_small HSM.out)
                have HRN := Lib.hid (show parseRun L n (rd (j2 + 1)) x2.d = r by rw [← HGO.out, HL1.out, HL2.out, HE.out])
                have HJJ := Lib.hid (show j < j2 + 1 by have := HLJ.out x.d (by rw [HL1.out, HE.out]; rfl); rw [HL1.out, HE.out] at this; exact this)
                clear ho hk HT HO7 HS7 HB7 HM7 HGO HL1 HL2 HSM HE
                go_wp2_with fail
                go_roundg n
                case measure => omega
                case rel => exact ⟨j2 + 1, x2, HO8.out, HS8.out, HSM2.out, HM8, HB8.out, by have := HGK.out; have := HJJ.out; have := HLT2.out; omega, HRN.out⟩
              · have HT := Lib.hid (stake_bad b L j2 x2.xv 4 w7 HO7.out h4)
                have HF := Lib.hid (fail_rd L j2 7 (by decide))
                have hE := end_take_bad h4
                have HRN := Lib.hid (show r.1 = failD (rd j2) 7 (nowD L (rd j2)) by rw [← HGO.out, HL1.out, hE, parseRun_bad HF.out])
                clear h4 hE
                go_wp2_with fail
                refine HT.out.mono ?_
                rintro e w8 ⟨rfl, hb⟩
                have HB8 := Lib.hid (HB7.out.trans (hb.mono (Nat.le_of_lt HO7.out.lt)))
                clear hb
                try go_wp2_with fail
                exact ⟨rfl, .inr ⟨by rw [HRN.out]; exact HF.out, by rw [HRN.out], HB8.out⟩⟩
            · have hl1 : (lineD L (rd j) x.d).1 = (midT L j x.d t.text).1 := by
                rw [HLM.out.2]
                split
                · rfl
                · rw [takeD_bad he]
              have HRN := Lib.hid (show r.1 = (midT L j x.d t.text).1 by rw [← HGO.out, parseRun_bad (by rw [hl1]; exact he), hl1])
              have HHE := Lib.hid he
              have HB8 := Lib.hid (HB.out.trans (HK6.out.below.trans hb))
              clear he hb hl1
              try go_wp2_with fail
              exact ⟨rfl, .inr ⟨by rw [HRN.out]; exact HHE.out, by rw [HRN.out], HB8.out⟩⟩
          · have c1 : (t.kind == 2) = false := beq_eq_false_iff_ne.2 k2
            have c2 : (t.kind != 2) = true := by rw [bne, c1]; rfl
            have hfn : ∃ f, fnOf t.text = .func (.func f) #[] #[] ∧ (f = 90 ∨ f = 91 ∨ f = 92 ∨ f = 93 ∨ f = 94 ∨ f = 95) := by
              have hq := HIN.out
              unfold keysL at hq
              simp only [List.mem_cons, List.not_mem_nil, or_false] at hq
              rcases hq with hq | hq | hq | hq | hq | hq <;> rw [hq] <;> exact ⟨_, rfl, by simp⟩
            obtain ⟨f, hfn, hff⟩ := hfn
            have hne := meth_ne f hff
            rw [hfn] at hlk
            have HF := Lib.hid (fail_rd L j 7 (by decide))
            have HRN := Lib.hid (show r.1 = failD (rd j) 7 (nowD L (rd j)) by rw [← HGO.out, line_bad (by rw [HTT.out]; rintro ⟨h, _⟩; exact k2 h), parseRun_bad HF.out])
            have HFL := Lib.hid (sfail_any b L j x.xv 7)
            clear hfn hff k2
            go_wp2_with fail
            refine (HNOW.out w5 HO5.out).mono ?_
            rintro e w6 ⟨rfl, hb⟩
            have HO6 := Lib.hid (HO5.out.new hb)
            have HK6 := Lib.hid (HK5.out.trans (Keep.of hb (Nat.le_of_lt HO5.out.lt)))
            clear hb hlk
            go_wp2_with fail
            refine (HFL.out w6 HO6.out).mono ?_
            rintro e w7 ⟨rfl, hb⟩
            have HB8 := Lib.hid (HB.out.trans (HK6.out.below.trans (hb.mono (Nat.le_of_lt HO6.out.lt))))
            clear hb
            try go_wp2_with fail
            exact ⟨rfl, .inr ⟨by rw [HRN.out]; exact HF.out, by rw [HRN.out], HB8.out⟩⟩
        · have HIN := Lib.hid hin
          clear hin
          have HF := Lib.hid (fail_rd L j 7 (by decide))
          have HRN := Lib.hid (show r.1 = failD (rd j) 7 (nowD L (rd j)) by rw [← HGO.out, line_bad (by rw [HTT.out]; rintro ⟨_, h⟩; exact HIN.out h), parseRun_bad HF.out])
          have HFL := Lib.hid (sfail_any b L j x.xv 7)
          have hne := fn_nil
          go_wp2_with fail
          refine (HNOW.out wr HO.out).mono ?_
          rintro e w5 ⟨rfl, hb⟩
          have HO5 := Lib.hid (HO.out.new hb)
          have HK5 := Lib.hid (Keep.of hb (Nat.le_of_lt HO.out.lt))
          have HM5 := Lib.hid (hmp.out.1.keep (hb.block m (by obtain ⟨es, c, h1, _⟩ := hmp.out.1; exact (Array.getElem?_eq_some_iff.1 h1).1)))
          clear hb x0
          have hlk := map_no HM5.out HIN.out
          go_wp2_with fail
          refine (HFL.out w5 HO5.out).mono ?_
          rintro e w7 ⟨rfl, hb⟩
          have HB8 := Lib.hid (HB.out.trans (HK5.out.below.trans (hb.mono (Nat.le_of_lt HO5.out.lt))))
          clear hb
          try go_wp2_with fail
          exact ⟨rfl, .inr ⟨by rw [HRN.out]; exact HF.out, by rw [HRN.out], HB8.out⟩⟩
      · have hst := HRUN.out
        rw [parseRun_stop (L := L) (fun hh => hj hh.2)] at hst
        have HST := Lib.hid hst
        have hz : (L.drop j).length = 0 := by rw [List.length_drop]; omega
        rw [hz] at x0
        clear hst hz
        go_wp2_with fail
        go_end0
        exact .inl ⟨j, x, by rw [← HST.out], by rw [← HST.out], rfl, HO.out, HS.out, HB.out⟩
  · have HT := Lib.hid (stake_bad b L j1 ({ zeroM with hor := n1 } : SheetM).xv 4 w2 HO2.out h4)
    have HF := Lib.hid (fail_rd L j1 7 (by decide))
    have hE := end_take_bad h4
    have HRN := Lib.hid (show r.1 = failD (rd j1) 7 (nowD L (rd j1)) by rw [← HR.out, hE, parseRun_bad HF.out])
    clear h4 hE
    go_wp2_with fail
    refine HT.out.mono ?_
    rintro e w8 ⟨rfl, hb⟩
    have HB8 := Lib.hid (HB2.out.trans (hb.mono (Nat.le_of_lt HO2.out.lt)))
    clear hb
    try go_wp2_with fail
    exact ⟨rfl, .inr ⟨by rw [HRN.out]; exact HF.out, by rw [HRN.out], HB8.out⟩⟩
end Go.Proofs.YteonefgbdphmiaaGreatDoor
