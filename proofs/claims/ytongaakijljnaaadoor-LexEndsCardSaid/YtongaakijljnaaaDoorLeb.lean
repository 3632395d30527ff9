/- The law LexEnds: its walk. -/
import Derived.Test.YtongaakijljnaaaDoorLen
import Derived.Test.YtongaakijljnaaaDoorLu
namespace Go.Proofs.YtongaakijljnaaaDoor
open Go.RowKit
set_option maxHeartbeats 4000000 in
set_option maxRecDepth 100000 in
theorem lends_any (s : ByteArray) (w : World) (hT : Tabs w) (hL : LibOk w) :
    Calls Tryd.prog 5 #[.string s] w fun e w' => e = .returned (.bool true) ∧ Below w.heap.size w w' := by
  have HT := Lib.hid hT
  have HL := Lib.hid hL
  clear hT hL
  go_enter Tryd.func5, Tryd.ntmps5
  go_wp2_with fail
  refine (lives_any w HT.out HL.out).mono ?_
  rintro e w1 ⟨rfl, hb1⟩
  have HB1 := Lib.hid hb1
  have HT1 := Lib.hid (HT.out.below hb1)
  have HL1 := Lib.hid (HL.out.below hb1)
  clear hb1
  by_cases hbig : s.size ≤ 3000
  · have t1 : ¬ (3000 : Int) < (s.size : Int) := by omega
    go_wp2_with fail
    refine (all_ok s w1 (by omega) HT1.out HL1.out).mono ?_
    rintro e w2 ⟨v2, rfl, ho2, hb2⟩
    obtain ⟨hpe, hpk⟩ := places s (by omega)
    have hcount := tok_count s
    have hord := order_all s (by omega)
    obtain ⟨l, hl⟩ : ∃ l, (allD s).1 = l := ⟨_, rfl⟩
    obtain ⟨f, hf⟩ : ∃ f, (allD s).2 = f := ⟨_, rfl⟩
    obtain ⟨fe, fl, fc⟩ := f
    rw [hl] at ho2 hpe hpk hcount hord
    rw [hf] at hpe hpk hord ⊢
    dsimp only at hpe hpk hord
    dsimp only [FaultD.v]
    obtain ⟨A1, n1, c1, rfl⟩ := ow_form ho2
    have hn1 : n1 = l.length := by
      obtain ⟨A, cap, e, _⟩ := ho2.shape
      injection e
    subst hn1
    have HO2 := Lib.hid (ho2.sl tkc_len |>.mono (P' := fun _ => True) fun _ _ => trivial)
    have HB2 := Lib.hid (HB1.out.trans (hb2.mono HB1.out.size))
    have HPE := Lib.hid hpe
    have HPK := Lib.hid hpk
    have HORD := Lib.hid hord
    clear ho2 hb2 hl hf hpe hpk hord
    obtain ⟨wA, hwA⟩ : ∃ wA, w2.alloc (.cells #[.int .i64 fe, .int .i64 fl, .int .i64 fc] 26) = wA := ⟨_, rfl⟩
    have HQA := Lib.hid (show wA.heap[w2.heap.size]? = some (.cells #[.int .i64 fe, .int .i64 fl, .int .i64 fc] 26 (0, 0)) by rw [← hwA]; exact heap_alloc_new _ _)
    have HBA := Lib.hid (show Below w.heap.size w wA by rw [← hwA]; exact HB2.out.alloc HB2.out.size _)
    have HSA := Lib.hid (show Sl tkc 5 wA (.slice A1 l.length c1) l (fun _ => True) by rw [← hwA]; exact HO2.out.alloc _)
    have x0 : wA.cell? ⟨w2.heap.size, 0, none⟩ = some (.int .i64 fe) := Lib.cell_of_heap HQA.out 0
    by_cases he : fe = 0
    · have e0 : (fe == 0) = true := beq_iff_eq.2 he
      have e1 : (fe != 0) = false := by rw [bne, e0]; rfl
      obtain ⟨hpl, hlast⟩ := HPK.out he
      have hord := HORD.out he
      have HPL := Lib.hid hpl
      have HOR := Lib.hid hord
      clear he hpl hlast hord HPK HPE HORD
      go_wp2_with fail
      have hll : l.length ≤ 1048576 := by omega
      refine (lines_any wA _ l HSA.out hll).mono ?_
      rintro e w3 ⟨v3, s3, rfl, hg3, hb3, ho3, hr3⟩
      have HB3 := Lib.hid (HBA.out.trans (hb3.mono HBA.out.size))
      have HL3 := Lib.hid (HSA.out.below_ hb3)
      obtain ⟨A3, n3, c3, rfl⟩ := ow_form ho3
      have hn3 : n3 = s3.length := by
        obtain ⟨A, cap, e, _⟩ := ho3.shape
        injection e
      subst hn3
      have HO3 := Lib.hid (ho3.sl rwc_len |>.mono (P' := fun _ => True) fun _ _ => trivial)
      have HR3 := Lib.hid (fun r hr => (hr3 r hr).sl tkc_len |>.mono (P' := fun _ => True) fun _ _ => trivial)
      have HG3 := Lib.hid hg3
      have hsm : (s3.length : Int) ≤ 9223372036854775807 := by
        obtain ⟨A, cap, e, h1, h2⟩ := ho3.shape
        unfold maxLen at h2
        omega
      clear hg3 hb3 ho3 hr3 hwA HSA HBA HQA x0
      go_wp2_with fail
      go_loopg [7, 6] s3.length (fun gg i at_ wr => ∃ (k a n : Nat), k ≤ s3.length ∧ s3.length - k ≤ gg ∧ i = .int .i64 k ∧ at_ = .int .i64 a ∧ a ≤ l.length ∧ Order false (l.drop a) ∧ (s3.drop k).map RowD.l = grpE [] (l.drop a) ∧ wr = w3.drewN n)
      case atStart => exact ⟨0, 0, 0, Nat.zero_le _, by omega, rfl, rfl, Nat.zero_le _, HOR.out, by rw [List.drop_zero, List.drop_zero]; exact HG3.out, rfl⟩
      case round =>
        obtain ⟨k, a, n, hk, hgg, rfl, rfl, ha, hoa, hga, rfl⟩ := hrel
        by_cases hks : k < s3.length
        · have hne : l.drop a ≠ [] := by
            intro h0
            rw [h0, List.drop_eq_getElem_cons hks] at hga
            cases hga
          obtain ⟨k1, k2, k3⟩ := order_cut (l.drop a) false hoa (.inl hne)
          have k4 := k3 rfl
          have hlt := cutE_lt (l.drop a)
          have hat := cutE_at (l.drop a) k1
          rw [grpE_cut, List.drop_eq_getElem_cons hks] at hga
          obtain ⟨c, hc⟩ : ∃ c, cutE (l.drop a) = c := ⟨_, rfl⟩
          have hdl : (l.drop a).length = l.length - a := List.length_drop
          have htk : ((l.drop a).take c).length = c := by rw [List.length_take]; omega
          simp only [hc] at k1 k2 k4 hlt hat hga
          rw [hdl] at k1
          have htn : ¬ ([] ++ (l.drop a).take c = ([] : List TokD)) := by
            intro h; rw [List.nil_append] at h; rw [h] at htk; simp at htk; omega
          rw [if_neg htn, List.nil_append, List.map_cons, List.singleton_append] at hga
          injection hga with hga1 hga2
          rw [List.drop_drop] at hga2 k2
          obtain ⟨x, hx9⟩ : ∃ x, s3[k] = x := ⟨_, rfl⟩
          rw [hx9] at hga1
          have hxs := HR3.out s3[k] (List.getElem_mem hks)
          rw [hx9] at hxs
          have hxl : x.l.length = c := by rw [hga1, htk]
          obtain ⟨b1, o1, cc, e1, _, _, hl1, _, hx⟩ := HO3.out.at_ hks
          injection e1 with e1 e2 e3
          subst e1
          rw [hx9] at hx
          have hx0 : w3.cell? ⟨b1, o1 + k, none⟩ = some x.v := by simpa using hx 0 _ rfl
          unfold RowD.v at hx0 hxs
          rw [hxl] at hx0 hxs
          obtain ⟨b2, o2, cc2, e5, hcc2, hmm2, hl2, _, hy⟩ := HL3.out.at_ (show a < l.length by omega)
          injection e5 with e5 e6 e7
          subst e5
          have hca : ¬ c1 = a := by omega
          obtain ⟨q, hq⟩ : ∃ q, a + c = q := ⟨_, rfl⟩
          have hqi : (a : Int) + (c : Int) = (q : Int) := by omega
          have hqa : q - a = c := by omega
          have hxl2 : (l.take q).drop a = x.l := by rw [hga1, ← hq, List.drop_take]; congr 1; omega
          have hsl := Sl.part (A' := some ⟨b2, o2 + a * 5, none⟩) (cap' := c1 - a) HL3.out (show a ≤ q by omega) (by omega) (fun _ => by simp [Addr.add]) (by omega) (by omega)
          rw [hxl2, hqa] at hsl
          have HC := Lib.hid (fun m => sameTok_any (.slice x.a c x.cap) (.slice (some ⟨b2, o2 + a * 5, none⟩) c (c1 - a)) x.l x.l (w3.drewN m) (hxs.drewN m) (hsl.drewN m) (by omega))
          rw [decide_eq_true rfl] at HC
          obtain ⟨b4, o4, cc4, e8, _, _, _, _, hz⟩ := HL3.out.at_ (show q < l.length by omega)
          injection e8 with e8 e9 e10
          injection e8 with e8
          injection e8 with e8 e11 e12
          subst e8 e11
          have hk4 : l[q].kind = 4 := by
            have h9 := hat
            rw [List.getElem_drop] at h9
            simpa [hq] using h9
          have hz0 : w3.cell? ⟨b2, o2 + q * 5, none⟩ = some (.int .i64 4) := by simpa [hk4] using hz 0 _ rfl
          have hqlt : (q : Int) < (l.length : Int) := by omega
          have hqge : decide (l.length ≤ q) = false := decide_eq_false (by omega)
          have hq0 : (0 : Int) ≤ (q : Int) := by omega
          have haq : (a : Int) ≤ (q : Int) := by omega
          have ha0 : (0 : Int) ≤ (a : Int) := by omega
          have hql : (q : Int) ≤ (l.length : Int) := by omega
          have hqc : q ≤ c1 := by omega
          have hc0 : ((c : Int) == 0) = false := beq_eq_false_iff_ne.2 (by omega)
          have r0 : (0 : Int) ≤ (k : Int) := by omega
          have r1 : (k : Int) < (s3.length : Int) := by omega
          have hlml : (l.length : Int) ≤ 6000 := by omega
          have hwr : IntKind.i64.wrap (q : Int) = (q : Int) := IntWalk.i64_in _ (by omega)
          have HX := Lib.hid hxs
          have HXL := Lib.hid hxl
          have HGA := Lib.hid hga2
          have HOA := Lib.hid k2
          have HLT := Lib.hid hlt
          have HG1 := Lib.hid hga1
          have HQ := Lib.hid hq
          clear hxs hxl hga1 hga2 k2 hlt hsl hat hz hx hx9 hy hk4 hxl2 e2 e3 e6 e7 hoa hne k3 htn htk k1 hc hcc2 hmm2 hl1 hl2 hdl e9 e10 e12
          go_wp2_with fail
          go_quiet ((go_at_call 12; exact quiet_add_any HC.out _ _))
          go_wp2_with fail
          clear hz0 HC
          go_loopg [8] c (fun gg i wr => ∃ (j n2 : Nat), j ≤ c ∧ c - j ≤ gg ∧ i = .int .i64 j ∧ wr = w3.drewN n2)
          case atStart => exact ⟨0, _, Nat.zero_le _, by omega, rfl, by first | rfl | exact World.drewN_drewN _ _ _⟩
          case round =>
            obtain ⟨j, n2, hj, hgj, rfl, rfl⟩ := hrel
            by_cases hjc : j < c
            · have hjx : j < x.l.length := by rw [HXL.out]; exact hjc
              have h0x : 0 < x.l.length := by rw [HXL.out]; omega
              obtain ⟨b6, o6, c6, f1, _, _, _, _, hj1⟩ := HX.out.at_ hjx
              obtain ⟨b7, o7, c7, f2, _, _, _, _, hj2⟩ := HX.out.at_ h0x
              have f1 := (Value.slice.inj f1).1
              have f2 := (Value.slice.inj f2).1
              rw [f1] at f2
              have f3 := Option.some.inj f2
              have f4 := (Addr.mk.inj f3).1
              have f5 := (Addr.mk.inj f3).2.1
              subst f4 f5
              have hget : ∀ (i : Nat) (hi : i < x.l.length) (hq : a + i < l.length), x.l[i] = l[a + i] := fun i hi hq => by
                have := congrArg (fun (m : List TokD) => m[i]?) HG1.out
                rw [List.getElem?_eq_getElem hi, List.getElem?_take_of_lt (by rw [← HXL.out]; exact hi), List.getElem?_drop, List.getElem?_eq_getElem hq] at this
                injection this
              have hkd : ∀ (i : Nat) (t : TokD), i ≤ j → l[a + i]? = some t → t.kind ≠ 4 := fun i t hi ht => by
                have h9 := HLT.out i (by rw [List.length_drop]; omega) (by omega)
                rw [List.getElem_drop] at h9
                rw [List.getElem?_eq_getElem (by omega)] at ht
                injection ht with ht
                rw [← ht]; exact h9
              have hln := line_same HPL.out a j l[a + j] l[a] (List.getElem?_eq_getElem (by omega)) (List.getElem?_eq_getElem (by omega)) hkd
              have hk9 := hkd j l[a + j] (Nat.le_refl _) (List.getElem?_eq_getElem (by omega))
              rw [hget j hjx (by omega)] at hj1
              rw [hget 0 h0x (by omega)] at hj2
              obtain ⟨t, ht9⟩ : ∃ t, l[a + j] = t := ⟨_, rfl⟩
              obtain ⟨p, hp9⟩ : ∃ p, l[a] = p := ⟨_, rfl⟩
              have hp8 : l[a + 0] = p := hp9
              rw [ht9] at hj1 hln hk9
              rw [hp8] at hj2
              rw [hp9] at hln
              have y0 : w3.cell? ⟨b6, o6 + j * 5, none⟩ = some (.int .i64 t.kind) := by simpa using hj1 0 _ rfl
              have y3 : w3.cell? ⟨b6, o6 + j * 5 + 3, none⟩ = some (.int .i64 t.line) := by simpa using hj1 3 _ rfl
              have y4 : w3.cell? ⟨b6, o6 + 3, none⟩ = some (.int .i64 p.line) := by simpa using hj2 3 _ rfl
              have xa : x.a = some ⟨b6, o6, none⟩ := f1
              rw [xa] at hx0
              rw [hln] at y3
              have hkk4 : (t.kind == 4) = false := beq_eq_false_iff_ne.2 hk9
              have s0 : (0 : Int) ≤ (j : Int) := by omega
              have s1 : (j : Int) < (c : Int) := by omega
              have s2 : (0 : Int) < (c : Int) := by omega
              clear hj1 hj2 hget hkd hln hk9 ht9 hp9 hp8 f1 f2 f3 xa hjx h0x
              go_wp2_with fail
              go_quiet (fail)
              go_wp2_with fail
              go_roundg (c - (j + 1))
              case measure => omega
              case rel => exact ⟨j + 1, _, by omega, by omega, by go_num, by first | rfl | exact World.drewN_drewN _ _ _⟩
            · have hjj : j = c := by omega
              have s1 : ¬ (j : Int) < (c : Int) := by omega
              have hwr2 : IntKind.i64.wrap ((q : Int) + 1) = ((a + c + 1 : Nat) : Int) := by rw [IntWalk.i64_in _ (by omega)]; omega
              clear hjj
              go_wp2_with fail
              go_roundg (s3.length - (k + 1))
              case measure => omega
              case rel => exact ⟨k + 1, a + c + 1, _, by omega, by omega, by go_num, congrArg (Value.int .i64) (by have := HQ.out; omega), by omega, HOA.out, HGA.out, rfl⟩
        · have hkk : k = s3.length := by omega
          rw [List.drop_of_length_le (by omega)] at hga
          have hfin : a = l.length := by
            rcases Nat.lt_or_ge a l.length with h | h
            · obtain ⟨k1, _, k3⟩ := order_cut (l.drop a) false hoa (.inl (by intro h0; have := congrArg List.length h0; simp at this; omega))
              have k4 := k3 rfl
              rw [grpE_cut, if_neg (by intro h0; have := congrArg List.length h0; simp at this; omega)] at hga
              cases hga
            · omega
          have t6 : ¬ (k : Int) < (s3.length : Int) := by omega
          subst hfin
          clear hga hoa hkk
          go_wp2_with fail
          go_ret
          exact ⟨rfl, below_drewN HB3.out n⟩
    · have e0 : (fe == 0) = false := beq_eq_false_iff_ne.2 he
      have e1 : (fe != 0) = true := by rw [bne, e0]; rfl
      obtain ⟨hl0, _⟩ := HPE.out he
      subst hl0
      clear he HPK HPE HORD
      go_wp2_with fail
      refine (lines_any wA _ [] HSA.out (by decide)).mono ?_
      rintro e w3 ⟨v3, s3, rfl, hg3, hb3, ho3, hr3⟩
      have hs3 : s3 = [] := by
        cases s3 with
        | nil => rfl
        | cons a b => cases hg3
      subst hs3
      obtain ⟨A3, n3, c3, rfl⟩ := ow_form ho3
      have hn3 : n3 = 0 := by
        obtain ⟨A, cap, e, _⟩ := ho3.shape
        injection e
      subst hn3
      have HB3 := Lib.hid (HBA.out.trans (hb3.mono HBA.out.size))
      go_wp2_with fail
      go_ret
      exact ⟨rfl, HB3.out⟩
  · have t1 : (3000 : Int) < (s.size : Int) := by omega
    go_wp2_with fail
    go_ret
    exact ⟨rfl, HB1.out⟩
end Go.Proofs.YtongaakijljnaaaDoor
