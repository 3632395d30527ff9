/- The law LexJoins: its walk. -/
import Derived.Test.YtongaakijljnaaaDoorLr
import Derived.Test.YtongaakijljnaaaDoorLq
namespace Go.Proofs.YtongaakijljnaaaDoor
open Go.RowKit
theorem step_fl {st : St} {c : Cur} (hi : Inv st c) (h : c.fl ≤ (c.s.size : Int) + 1) : (stepSt st c).2.fl ≤ (c.s.size : Int) + 1 := by
  have ok := hi.ok
  have k2 := ok.pos
  have k4 := ok.line
  have hf : ∀ e p, (c.fail e p).fl ≤ (c.s.size : Int) + 1 := fun e p => by show (c.line : Int) ≤ _; omega
  cases st with
  | none => exact h
  | any => show (stepAny c).2.fl ≤ _; unfold stepAny; (repeat' split) <;> first | exact h | exact hf _ _
  | end_ =>
    show (stepEnd c).2.fl ≤ _
    have hc : c.close.fl = c.fl := by unfold Cur.close; split <;> rfl
    unfold stepEnd
    split
    · show c.close.fl ≤ _; rw [hc]; exact h
    · show c.close.fl ≤ _; rw [hc]; exact h
  | remark => exact h
  | word => show (stepWord c).2.fl ≤ _; unfold stepWord; dsimp only; split <;> first | exact hf _ _ | exact h
  | number => show (stepNumber c).2.fl ≤ _; unfold stepNumber; dsimp only; (repeat' split) <;> first | exact h | exact hf _ _
theorem runs_fl : ∀ (n : Nat) {st : St} {c : Cur}, (st = .none ∨ Inv st c) → c.fl ≤ (c.s.size : Int) + 1 → (runs n st c).2.fl ≤ (c.s.size : Int) + 1 := by
  intro n
  induction n with
  | zero => intro st c _ h; exact h
  | succ n ih =>
    intro st c hi h
    by_cases hs : st = .none
    · subst hs; simp only [runs, if_true]; exact h
    · simp only [runs, if_neg hs]
      have hj := hi.resolve_left hs
      have h2 := ih (step_inv hj hs).1 (by rw [stepSt_s]; exact step_fl hj h)
      rw [stepSt_s] at h2
      exact h2
theorem step_out {st : St} {c : Cur} (hi : Inv st c) : (stepSt st c).2.out.length ≤ 2 * c.s.size := by
  have ok := hi.ok
  have k2 := ok.pos
  have ho := hi.out
  have h : c.out.length ≤ 2 * c.s.size := by omega
  by_cases hs : st = .none
  · subst hs; exact h
  rcases (step_inv hi hs).1 with h1 | h1
  · cases st with
    | none => exact h
    | any => show (stepAny c).2.out.length ≤ _; unfold stepAny; (repeat' split) <;> exact h
    | end_ =>
      have hc : c.close.out.length ≤ 2 * c.s.size := by
        unfold Cur.close
        split
        · rename_i hsm
          rw [if_pos hsm] at ho
          show (c.out ++ [_]).length ≤ _
          rw [List.length_append, List.length_singleton]; omega
        · exact h
      show (stepEnd c).2.out.length ≤ _
      unfold stepEnd
      split
      · exact hc
      · exact hc
    | remark => exact h
    | word =>
      revert h1
      show (stepWord c).1 = .none → (stepWord c).2.out.length ≤ _
      unfold stepWord
      dsimp only
      split
      · exact fun _ => h
      · exact fun e => (by cases e)
    | number =>
      revert h1
      show (stepNumber c).1 = .none → (stepNumber c).2.out.length ≤ _
      unfold stepNumber
      dsimp only
      (repeat' split) <;> first | exact fun _ => h | exact fun e => (by cases e)
  · have h2 := h1.out
    have h3 := h1.ok.pos
    rw [stepSt_s] at h3
    omega
theorem runs_out : ∀ (n : Nat) {st : St} {c : Cur}, (st = .none ∨ Inv st c) → c.out.length ≤ 2 * c.s.size → (runs n st c).2.out.length ≤ 2 * c.s.size := by
  intro n
  induction n with
  | zero => intro st c _ h; exact h
  | succ n ih =>
    intro st c hi h
    by_cases hs : st = .none
    · subst hs; simp only [runs, if_true]; exact h
    · simp only [runs, if_neg hs]
      have hj := hi.resolve_left hs
      have h2 := ih (step_inv hj hs).1 (by rw [stepSt_s]; exact step_out hj)
      rw [stepSt_s] at h2
      exact h2
theorem tok_count (s : ByteArray) : (allD s).1.length ≤ 2 * s.size := by
  unfold allD
  split
  · exact Nat.zero_le _
  · rename_i hs
    split
    · exact Nat.zero_le _
    · exact runs_out _ (.inr (start_inv s (by omega))) (Nat.zero_le _)
theorem fault_line (s : ByteArray) (hs : s.size ≤ 65536) : (allD s).2.line ≤ (s.size : Int) + 1 := by
  have h : (lexed s).fl ≤ (s.size : Int) + 1 := runs_fl _ (.inr (start_inv s hs)) (by show (0 : Int) ≤ (s.size : Int) + 1; omega)
  unfold allD
  rw [if_neg (by omega)]
  split
  · exact h
  · show (0 : Int) ≤ _; omega
theorem tok_lines (s : ByteArray) (hs : s.size ≤ 65536) (he : (allD s).2.err = 0) : ∀ t ∈ (allD s).1, 1 ≤ t.line ∧ t.line ≤ (s.size : Int) + 1 := by
  intro t ht
  obtain ⟨i, hi⟩ := List.mem_iff_getElem?.1 ht
  obtain ⟨⟨ln, cl, og, h1, _, h3, _⟩, _⟩ := ((places s hs).2 he).1 i t hi
  have h4 := (List.getElem?_eq_some_iff.1 h3).1
  have h5 := (startsTo_len s.data.toList s.data.toList.length).2
  rw [Nm.len_size] at h5 h4
  omega
theorem joined_of (s t : ByteArray) : Joined s t (s ++ ⟨#[10]⟩ ++ t) := by
  unfold Joined
  simp
theorem alloc_cells {w w' : World} {b : Nat} {o : Obj} (h : w.heap[b]? = some o) {x : Obj} (e : w.alloc x = w') : w'.heap[b]? = some o := by
  rw [← e, heap_alloc_old _ _ (Array.getElem?_eq_some_iff.1 h).1]; exact h
theorem fault_yes (a1 a2 a3 b1 b2 b3 : Int) (h : FaultD.mk a1 a2 a3 = FaultD.mk b1 b2 b3) (W : World) : (Go.binOp BinOp.eql 26 (.agg #[.int .i64 a1, .int .i64 a2, .int .i64 a3]) (.agg #[.int .i64 b1, .int .i64 b2, .int .i64 b3])).run Tryd.prog W = .ok (.bool true) W := by
  rw [fault_eql, decide_eq_true h]
set_option maxHeartbeats 4000000 in
set_option maxRecDepth 100000 in
theorem ljoins_any (s t : ByteArray) (w : World) (hT : Tabs w) (hL : LibOk w) :
    Calls Tryd.prog 4 #[.string s, .string t] w fun e w' => e = .returned (.bool true) ∧ Below w.heap.size w w' := by
  obtain ⟨i0, hi0, hz0, hz1, hz2⟩ := info_parts info_tok
  have HT := Lib.hid hT
  have HL := Lib.hid hL
  clear hT hL
  go_enter Tryd.func4, Tryd.ntmps4
  go_wp2_with fail
  refine (lives_any w HT.out HL.out).mono ?_
  rintro e w1 ⟨rfl, hb1⟩
  have HB1 := Lib.hid hb1
  have HT1 := Lib.hid (HT.out.below hb1)
  have HL1 := Lib.hid (HL.out.below hb1)
  clear hb1
  by_cases hbig : 1500 < s.size
  · have t1 : (1500 : Int) < (s.size : Int) := by omega
    go_wp2_with fail
    go_ret
    exact ⟨rfl, HB1.out⟩
  by_cases hbig2 : 1500 < t.size
  · have t1 : ¬ (1500 : Int) < (s.size : Int) := by omega
    have t2 : (1500 : Int) < (t.size : Int) := by omega
    go_wp2_with fail
    go_ret
    exact ⟨rfl, HB1.out⟩
  have t1 : ¬ (1500 : Int) < (s.size : Int) := by omega
  have t2 : ¬ (1500 : Int) < (t.size : Int) := by omega
  have t3 : ¬ (s.size : Int) < 0 := by omega
  go_wp2_with fail
  go_loopg [6, 5] s.size (fun gg i v wr => ∃ k : Nat, k ≤ s.size ∧ s.size - k ≤ gg ∧ i = .int .i64 k ∧ v = .int .i64 ((startsTo s.data.toList k).length : Int) ∧ wr = w1)
  case atStart => exact ⟨0, Nat.zero_le _, by omega, rfl, rfl, rfl⟩
  case round =>
    obtain ⟨k, hk, hgg, rfl, rfl, rfl⟩ := hrel
    have hsl := startsTo_len s.data.toList k
    by_cases hlt : k < s.size
    · have q1 : (0 : Int) ≤ (k : Int) := by omega
      have q2 : (k : Int) < (s.size : Int) := by omega
      obtain ⟨y, hy⟩ : ∃ y, s[k] = y := ⟨_, rfl⟩
      have HY := Lib.hid hy
      obtain ⟨N, hN⟩ : ∃ N, (startsTo s.data.toList k).length = N := ⟨_, rfl⟩
      have HN := Lib.hid hN
      rw [hN] at hsl ⊢
      clear hN
      by_cases hy10 : y.toNat = 10
      · have t10 : ((y.toNat : Int) == 10) = true := beq_iff_eq.2 (by omega)
        have E := Lib.hid (startsTo_yes s.data.toList k (by rw [getD_byte s hlt, HY.out]; exact UInt8.toNat_inj.1 hy10))
        clear hy10
        go_wp2_with fail
        go_roundg (s.size - (k + 1))
        case measure => omega
        case rel => exact ⟨k + 1, by omega, by omega, by go_num, by rw [E.out, List.length_append, HN.out]; rfl, rfl⟩
      · have t10 : ((y.toNat : Int) == 10) = false := beq_eq_false_iff_ne.2 (by omega)
        have E := Lib.hid (startsTo_no s.data.toList k (fun e => hy10 (by rw [getD_byte s hlt, HY.out] at e; rw [e]; rfl)))
        clear hy10
        go_wp2_with fail
        go_roundg (s.size - (k + 1))
        case measure => omega
        case rel => exact ⟨k + 1, by omega, by omega, by go_num, by rw [E.out, HN.out], rfl⟩
    · have hks : k = s.size := by omega
      have t4 : ¬ (k : Int) < (s.size : Int) := by omega
      obtain ⟨N, hN⟩ : ∃ N, (startsTo s.data.toList k).length = N := ⟨_, rfl⟩
      have HN := Lib.hid (show linesOf s = N by unfold linesOf; rw [Nm.len_size, ← hks]; exact hN)
      rw [hN] at hsl ⊢
      obtain ⟨wa, rfl⟩ : ∃ wa, wa = wr := ⟨_, rfl⟩
      clear hN hgg
      go_wp2_with fail
      refine (all_ok s wa (by omega) HT1.out HL1.out).mono ?_
      rintro e w2 ⟨v2, rfl, ho2, hb2⟩
      have hj := joins (joined_of s t) (by rw [(joined_of s t).size]; omega)
      have hus : (s ++ ⟨#[10]⟩ ++ t).size ≤ 65536 := by rw [(joined_of s t).size]; omega
      have hfl := fault_line t (by omega)
      have htl := tok_lines t (by omega)
      have hps := (places s (by omega)).1
      have hpt := (places t (by omega)).1
      obtain ⟨la, hla⟩ : ∃ la, (allD s).1 = la := ⟨_, rfl⟩
      obtain ⟨⟨e1, e2, e3⟩, hfa⟩ : ∃ f, (allD s).2 = f := ⟨_, rfl⟩
      obtain ⟨lb, hlb⟩ : ∃ lb, (allD t).1 = lb := ⟨_, rfl⟩
      obtain ⟨⟨f1, f2, f3⟩, hfb⟩ : ∃ f, (allD t).2 = f := ⟨_, rfl⟩
      have hlen : lb.length ≤ 3000 := by have := tok_count t; rw [hlb] at this; omega
      have hlen1 : la.length ≤ 3000 := by have := tok_count s; rw [hla] at this; omega
      rw [hla, hlb, hfa, hfb, HN.out] at hj
      rw [hfb] at hfl htl hpt
      rw [hlb] at htl
      rw [hla] at ho2
      rw [hfa] at hps ⊢
      dsimp only at hj hfl htl hps hpt
      dsimp only [FaultD.v]
      have HJ := Lib.hid hj
      have HFL := Lib.hid hfl
      have HTL := Lib.hid htl
      have HPT := Lib.hid hpt
      obtain ⟨A1, n1, c1, rfl⟩ := ow_form ho2
      have HB2 := Lib.hid (HB1.out.trans (hb2.mono HB1.out.size))
      have HO2 := Lib.hid (ho2.sl tkc_len |>.mono (P' := fun _ => True) fun _ _ => trivial)
      clear ho2 hb2 hj hfl htl hps hpt hla hfa
      go_wp2_with fail
      obtain ⟨wA, hwA⟩ : ∃ wA, w2.alloc (.cells #[.int .i64 e1, .int .i64 e2, .int .i64 e3] 26) = wA := ⟨_, rfl⟩
      have HQA := Lib.hid (show wA.heap[w2.heap.size]? = some (.cells #[.int .i64 e1, .int .i64 e2, .int .i64 e3] 26 (0, 0)) by rw [← hwA]; exact heap_alloc_new _ _)
      have HBA := Lib.hid (show Below w.heap.size w wA by rw [← hwA]; exact HB2.out.alloc HB2.out.size _)
      have HSA := Lib.hid (show Sl tkc 5 wA (.slice A1 n1 c1) la (fun _ => True) by rw [← hwA]; exact HO2.out.alloc _)
      rw [hwA]
      have hlA : w2.heap.size < wA.heap.size := (Array.getElem?_eq_some_iff.1 HQA.out).1
      clear hwA HO2 HB2
      refine (all_ok t wA (by omega) (HT.out.below HBA.out) (HL.out.below HBA.out)).mono ?_
      rintro e w3 ⟨v3, rfl, ho3, hb3⟩
      rw [hlb] at ho3
      rw [hfb]
      dsimp only [FaultD.v]
      obtain ⟨A2, n2, c2, rfl⟩ := ow_form ho3
      have HB3 := Lib.hid (HBA.out.trans (hb3.mono HBA.out.size))
      have HS3 := Lib.hid (HSA.out.below_ hb3)
      have HQ3 := Lib.hid ((hb3.block _ hlA).trans HQA.out)
      have HO3 := Lib.hid (ho3.sl tkc_len |>.mono (P' := fun _ => True) fun _ _ => trivial)
      clear ho3 hb3 HSA HQA HBA hlb hfb
      go_wp2_with fail
      obtain ⟨wC, hwC⟩ : ∃ wC, w3.alloc (.cells #[.int .i64 f1, .int .i64 f2, .int .i64 f3] 26) = wC := ⟨_, rfl⟩
      have HQC := Lib.hid (show wC.heap[w3.heap.size]? = some (.cells #[.int .i64 f1, .int .i64 f2, .int .i64 f3] 26 (0, 0)) by rw [← hwC]; exact heap_alloc_new _ _)
      have hlB : w2.heap.size < w3.heap.size := (Array.getElem?_eq_some_iff.1 HQ3.out).1
      have HPC := Lib.hid (alloc_cells HQ3.out hwC)
      have HBC := Lib.hid (show Below w.heap.size w wC by rw [← hwC]; exact HB3.out.alloc HB3.out.size _)
      have HSC := Lib.hid (show Sl tkc 5 wC (.slice A1 n1 c1) la (fun _ => True) by rw [← hwC]; exact HS3.out.alloc _)
      have HOC := Lib.hid (show Sl tkc 5 wC (.slice A2 n2 c2) lb (fun _ => True) by rw [← hwC]; exact HO3.out.alloc _)
      rw [hwC]
      have hlC : w3.heap.size < wC.heap.size := (Array.getElem?_eq_some_iff.1 HQC.out).1
      clear hwC HS3 HB3 HQ3 HO3
      refine (all_ok _ wC hus (HT.out.below HBC.out) (HL.out.below HBC.out)).mono ?_
      rintro e w4 ⟨v4, rfl, ho4, hb4⟩
      obtain ⟨lc, hlc⟩ : ∃ lc, (allD (s ++ ⟨#[10]⟩ ++ t)).1 = lc := ⟨_, rfl⟩
      obtain ⟨⟨g1, g2, g3⟩, hfc⟩ : ∃ f, (allD (s ++ ⟨#[10]⟩ ++ t)).2 = f := ⟨_, rfl⟩
      have hj3 : (e1 ≠ 0 → lc = [] ∧ FaultD.mk g1 g2 g3 = ⟨e1, e2, e3⟩) ∧ (e1 = 0 → f1 ≠ 0 → lc = [] ∧ FaultD.mk g1 g2 g3 = ⟨f1, f2 + (N : Int), f3⟩) ∧ (e1 = 0 → f1 = 0 → lc = la ++ lb.map (mvT N) ∧ FaultD.mk g1 g2 g3 = ⟨0, 0, 0⟩) := by
        rw [← hlc, ← hfc]
        obtain ⟨j1, j2, j3⟩ := HJ.out
        exact ⟨fun h => by rw [j1 h]; exact ⟨rfl, rfl⟩, fun h h' => by rw [j2 h h']; exact ⟨rfl, rfl⟩, fun h h' => by rw [j3 h h']; exact ⟨rfl, rfl⟩⟩
      rw [hlc] at ho4
      rw [hfc]
      dsimp only [FaultD.v]
      obtain ⟨A3, n3, c3, rfl⟩ := ow_form ho4
      have HB4 := Lib.hid (HBC.out.trans (hb4.mono HBC.out.size))
      have HS4 := Lib.hid (HSC.out.below_ hb4)
      have HO4 := Lib.hid (HOC.out.below_ hb4)
      have HQ4 := Lib.hid ((hb4.block _ hlC).trans HQC.out)
      have HP4 := Lib.hid ((hb4.block _ (Nat.lt_trans hlB hlC)).trans HPC.out)
      have HC4 := Lib.hid (ho4.sl tkc_len |>.mono (P' := fun _ => True) fun _ _ => trivial)
      have HJ3 := Lib.hid hj3
      clear ho4 hb4 HSC HQC HBC HPC HOC HJ hlc hfc hj3
      obtain ⟨wD, hwD⟩ : ∃ wD, w4.alloc (.cells #[.int .i64 g1, .int .i64 g2, .int .i64 g3] 26) = wD := ⟨_, rfl⟩
      have HQD := Lib.hid (show wD.heap[w4.heap.size]? = some (.cells #[.int .i64 g1, .int .i64 g2, .int .i64 g3] 26 (0, 0)) by rw [← hwD]; exact heap_alloc_new _ _)
      have HFD := Lib.hid (alloc_cells HQ4.out hwD)
      have HED := Lib.hid (alloc_cells HP4.out hwD)
      have HBD := Lib.hid (show Below w.heap.size w wD by rw [← hwD]; exact HB4.out.alloc HB4.out.size _)
      have HAD := Lib.hid (show Sl tkc 5 wD (.slice A1 n1 c1) la (fun _ => True) by rw [← hwD]; exact HS4.out.alloc _)
      have HBBD := Lib.hid (show Sl tkc 5 wD (.slice A2 n2 c2) lb (fun _ => True) by rw [← hwD]; exact HO4.out.alloc _)
      have HCD := Lib.hid (show Sl tkc 5 wD (.slice A3 n3 c3) lc (fun _ => True) by rw [← hwD]; exact HC4.out.alloc _)
      have hn3 : n3 = lc.length := by
        obtain ⟨A, cap, e, _⟩ := HCD.out.shape
        injection e
      have hn2 : n2 = lb.length := by
        obtain ⟨A, cap, e, _⟩ := HBBD.out.shape
        injection e
      subst hn2 hn3
      have x0 : wD.cell? ⟨w2.heap.size, 0, none⟩ = some (.int .i64 e1) := Lib.cell_of_heap HED.out 0
      have x1 : wD.cell? ⟨w2.heap.size, 1, none⟩ = some (.int .i64 e2) := Lib.cell_of_heap HED.out 1
      have x2 : wD.cell? ⟨w2.heap.size, 2, none⟩ = some (.int .i64 e3) := Lib.cell_of_heap HED.out 2
      have y0 : wD.cell? ⟨w3.heap.size, 0, none⟩ = some (.int .i64 f1) := Lib.cell_of_heap HFD.out 0
      have y1 : wD.cell? ⟨w3.heap.size, 1, none⟩ = some (.int .i64 f2) := Lib.cell_of_heap HFD.out 1
      have y2 : wD.cell? ⟨w3.heap.size, 2, none⟩ = some (.int .i64 f3) := Lib.cell_of_heap HFD.out 2
      have z0 : wD.cell? ⟨w4.heap.size, 0, none⟩ = some (.int .i64 g1) := Lib.cell_of_heap HQD.out 0
      have z1 : wD.cell? ⟨w4.heap.size, 1, none⟩ = some (.int .i64 g2) := Lib.cell_of_heap HQD.out 1
      have z2 : wD.cell? ⟨w4.heap.size, 2, none⟩ = some (.int .i64 g3) := Lib.cell_of_heap HQD.out 2
      clear hlA hlB hlC HS4 HO4 HQ4 HP4 HC4 HB4
      by_cases he : e1 = 0
      · by_cases hf : f1 = 0
        · obtain ⟨j1, j2⟩ := HJ3.out.2.2 he hf
          have HJ1 := Lib.hid j1
          have e0 : (e1 == 0) = true := beq_iff_eq.2 he
          have e9 : (e1 != 0) = false := by rw [bne, e0]; rfl
          have f0 : (f1 == 0) = true := beq_iff_eq.2 hf
          have f9 : (f1 != 0) = false := by rw [bne, f0]; rfl
          have HTL2 := Lib.hid (HTL.out hf)
          have hfe := fault_yes _ _ _ _ _ _ j2
          clear he hf HJ3 HTL j1 j2
          go_wp2_with fail
          have hla9 : la.length ≤ 1048576 := by omega
          refine (own_tok wD _ la HAD.out hla9).mono ?_
          rintro e w5 ⟨v5, rfl, ho5, hb5⟩
          have HO5 := Lib.hid ho5
          have HB5 := Lib.hid hb5
          have hsz5 := hb5.size
          clear ho5 hb5 x0 x1 x2 y0 y1 y2 z0 z1 z2 hwD
          have t5 : ¬ (lb.length : Int) < 0 := by omega
          go_wp2_with fail
          go_loopg [14, 13] lb.length (fun gg i v wr => ∃ k : Nat, k ≤ lb.length ∧ lb.length - k ≤ gg ∧ i = .int .i64 k ∧ Ow tkc 5 wr wD.heap.size 31 v (la ++ (lb.take k).map (mvT N)) ∧ Below wD.heap.size wD wr)
          case atStart => exact ⟨0, Nat.zero_le _, by omega, rfl, by rw [List.take_zero, List.map_nil, List.append_nil]; exact HO5.out, HB5.out⟩
          case round =>
            obtain ⟨k, hk, hgg, rfl, ho, hb⟩ := hrel
            obtain ⟨Av, nv, cv, rfl⟩ := ow_form ho
            by_cases hkl : k < lb.length
            · obtain ⟨b1, o1, cc, e1, _, _, hl1, _, hx⟩ := (HBBD.out.below_ hb).at_ hkl
              injection e1 with e1 e2 e3
              subst e1
              have htl := HTL2.out _ (List.getElem_mem hkl)
              have E := Lib.hid (show (lb.take (k + 1)).map (mvT N) = (lb.take k).map (mvT N) ++ [mvT N lb[k]] by rw [List.take_succ_eq_append_getElem hkl, List.map_append]; rfl)
              obtain ⟨x, hx9⟩ : ∃ x, lb[k] = x := ⟨_, rfl⟩
              rw [hx9] at hx htl E
              obtain ⟨kd, tx, nm, li, co⟩ := x
              dsimp only at htl
              have hx0 : wr.cell? ⟨b1, o1 + k * 5, none⟩ = some (.int .i64 kd) := by simpa using hx 0 _ rfl
              have hx1 : wr.cell? ⟨b1, o1 + k * 5 + 1, none⟩ = some (.string (ba tx)) := by simpa using hx 1 _ rfl
              have hx2 : wr.cell? ⟨b1, o1 + k * 5 + 2, none⟩ = some (.int .i64 nm) := by simpa using hx 2 _ rfl
              have hx3 : wr.cell? ⟨b1, o1 + k * 5 + 3, none⟩ = some (.int .i64 li) := by simpa using hx 3 _ rfl
              have hx4 : wr.cell? ⟨b1, o1 + k * 5 + 4, none⟩ = some (.int .i64 co) := by simpa using hx 4 _ rfl
              have HO := Lib.hid ho
              have HB := Lib.hid hb
              have q1 : (0 : Int) ≤ (k : Int) := by omega
              have q2 : (k : Int) < (lb.length : Int) := by omega
              clear ho hb hx hx9 e2 e3
              go_upto_region 23 with fail
              obtain ⟨wq, hwq⟩ : ∃ wq, wr.alloc (.cells #[.int .i64 kd, .string (ba tx), .int .i64 nm, .int .i64 li, .int .i64 co] 31) = wq := ⟨_, rfl⟩
              have hqq : wq.heap[wr.heap.size]? = some (.cells #[.int .i64 kd, .string (ba tx), .int .i64 nm, .int .i64 li, .int .i64 co] 31 (0, 0)) := by rw [← hwq]; exact heap_alloc_new _ _
              have hOq : Ow tkc 5 wq wD.heap.size 31 (.slice Av nv cv) (la ++ (lb.take k).map (mvT N)) := by rw [← hwq]; exact HO.out.alloc _
              have hBq : Below wD.heap.size wD wq := by rw [← hwq]; exact HB.out.alloc HB.out.size _
              have hne : (Value.slice Av nv cv).ownBlock ≠ some wr.heap.size := fun e => absurd (HO.out.lt e).2 (Nat.lt_irrefl _)
              have x3 : wq.cell? ⟨wr.heap.size, 3, none⟩ = some (.int .i64 li) := Lib.cell_of_heap hqq 3
              have g3 : wq.frozen? ⟨wr.heap.size, 3, none⟩ = false := Lib.frozen_of_heap hqq 3
              have HQQ := Lib.hid hqq
              have HOQ := Lib.hid hOq
              have HBQ := Lib.hid hBq
              have HNE := Lib.hid hne
              have HWR := Lib.hid (show wD.heap.size ≤ wr.heap.size from HB.out.size)
              rw [hwq]
              clear hwq hx0 hx1 hx2 hx3 hx4 hqq hOq hBq hne
              go_upto_region 24 with fail
              generalize hwz : World.setCell _ ⟨wr.heap.size, 3, none⟩ (.int .i64 (li + (N : Int))) = wz
              have hqz : wz.heap[wr.heap.size]? = some (.cells #[.int .i64 kd, .string (ba tx), .int .i64 nm, .int .i64 (li + (N : Int)), .int .i64 co] 31 (0, 0)) := by rw [← hwz]; exact heap_setCell_same _ _ 3 _ _ _ HQQ.out
              have HOZ := Lib.hid (show Ow tkc 5 wz wD.heap.size 31 (.slice Av nv cv) (la ++ (lb.take k).map (mvT N)) by rw [← hwz]; exact HOQ.out.set HNE.out)
              have HBZ := Lib.hid (show Below wD.heap.size wD wz by rw [← hwz]; exact HBQ.out.setCell (p := ⟨wr.heap.size, 3, none⟩) HWR.out _)
              have HSZ := Lib.hid (show wD.heap.size ≤ wz.heap.size from HBZ.out.size)
              have z0 : wz.cell? ⟨wr.heap.size, 0, none⟩ = some (.int .i64 kd) := Lib.cell_of_heap hqz 0
              have z1 : wz.cell? ⟨wr.heap.size, 1, none⟩ = some (.string (ba tx)) := Lib.cell_of_heap hqz 1
              have z2 : wz.cell? ⟨wr.heap.size, 2, none⟩ = some (.int .i64 nm) := Lib.cell_of_heap hqz 2
              have z3 : wz.cell? ⟨wr.heap.size, 3, none⟩ = some (.int .i64 (li + (N : Int))) := Lib.cell_of_heap hqz 3
              have z4 : wz.cell? ⟨wr.heap.size, 4, none⟩ = some (.int .i64 co) := Lib.cell_of_heap hqz 4
              have hla : (la ++ (lb.take k).map (mvT N)).length ≤ 10000 := by rw [List.length_append, List.length_map, List.length_take]; omega
              have HLA := Lib.hid hla
              clear hwz hqz x3 g3 hla
              go_wp2_with (at_builtin; refine wpList_append_sl _ rfl _ _ _ rfl wD.heap.size 31 i0 _ 48 Tryd.underlying23 hi0 hz0 hz1 hz2 (by rfl) (by omega) tkc_len tkc_one _ _ (la ++ (lb.take k).map (mvT N)) [mvT N ⟨kd, tx, nm, li, co⟩] rfl rfl (HOZ.out.alloc _) (Sl.newl [mvT N ⟨kd, tx, nm, li, co⟩] tkc_len rfl rfl (by show 1 ≤ maxLen; decide) rfl) (by have := HLA.out; simp only [maxLen, List.length_cons, List.length_nil]; omega) (by have := HLA.out; simp only [List.length_cons, List.length_nil]; omega) (by have := HSZ.out; simp; omega) ?_; intro v6 w6 hown6 hg6 hmv6)
              go_roundg (lb.length - (k + 1))
              case measure => omega
              case rel => exact ⟨k + 1, by omega, by omega, by go_num, by rw [E.out, ← List.append_assoc]; exact hown6, app_keep HBZ.out HSZ.out HOZ.out hg6⟩
            · have hkk : k = lb.length := by omega
              rw [hkk, List.take_of_length_le (Nat.le_refl _)] at ho
              have t6 : ¬ (k : Int) < (lb.length : Int) := by omega
              have hqz : wr.heap[w4.heap.size]? = some (.cells #[.int .i64 g1, .int .i64 g2, .int .i64 g3] 26 (0, 0)) := (hb.block _ (Array.getElem?_eq_some_iff.1 HQD.out).1).trans HQD.out
              have z0 : wr.cell? ⟨w4.heap.size, 0, none⟩ = some (.int .i64 g1) := Lib.cell_of_heap hqz 0
              have z1 : wr.cell? ⟨w4.heap.size, 1, none⟩ = some (.int .i64 g2) := Lib.cell_of_heap hqz 1
              have z2 : wr.cell? ⟨w4.heap.size, 2, none⟩ = some (.int .i64 g3) := Lib.cell_of_heap hqz 2
              have HS := Lib.hid (ho.sl tkc_len)
              have HBR := Lib.hid hb
              have HCR := Lib.hid (HCD.out.below_ hb)
              have hlc : lc.length ≤ 1048576 := by rw [HJ1.out, List.length_append, List.length_map]; omega
              obtain ⟨wo, rfl⟩ : ∃ wo, wo = wr := ⟨_, rfl⟩
              clear ho hb hqz hgg hkk
              go_wp2_with fail
              refine (sameTok_any _ _ lc _ wo HCR.out HS.out hlc).mono ?_
              rintro e w' ⟨rfl, n, rfl⟩
              rw [show decide (lc = la ++ lb.map (mvT N)) = true from decide_eq_true HJ1.out]
              go_wp2_with fail
              go_ret
              exact ⟨rfl, below_drewN (HBD.out.trans (HBR.out.mono HBD.out.size)) n⟩
        · obtain ⟨j1, j2⟩ := HJ3.out.2.1 he hf
          subst j1
          have e0 : (e1 == 0) = true := beq_iff_eq.2 he
          have e9 : (e1 != 0) = false := by rw [bne, e0]; rfl
          have f0 : (f1 == 0) = false := beq_eq_false_iff_ne.2 hf
          have f9 : (f1 != 0) = true := by rw [bne, f0]; rfl
          have hfe := fault_yes _ _ _ _ _ _ j2
          have hfl1 := (HPT.out hf).2.1
          have hfl2 := HFL.out
          clear he hf j2 HJ3
          go_wp2_with fail
          go_ret
          exact ⟨rfl, HBD.out⟩
      · obtain ⟨j1, j2⟩ := HJ3.out.1 he
        subst j1
        have e0 : (e1 == 0) = false := beq_eq_false_iff_ne.2 he
        have e9 : (e1 != 0) = true := by rw [bne, e0]; rfl
        have hfe := fault_yes _ _ _ _ _ _ j2
        clear he j2 HJ3
        go_wp2_with fail
        go_ret
        exact ⟨rfl, HBD.out⟩
end Go.Proofs.YtongaakijljnaaaDoor
