/- The law ChangeFaults: its walk. -/
import Derived.Test.YtlclkeihkkpdbaaDoorUtz
import Derived.Test.YtlclkeihkkpdbaaDoorUp
import Derived.Test.YtlclkeihkkpdbaaDoorUtx
import Derived.Test.YtlclkeihkkpdbaaDoorUop
import Derived.Deep.CutBlock
import Derived.Deep.CutRange
import Derived.Deep.DeepCutAuto
namespace Go.Proofs.YtlclkeihkkpdbaaDoor
open Go.RowKit
theorem ba_appU (x y : List UInt8) : ba x ++ ba y = ba (x ++ y) := by
  apply ByteArray.ext
  apply Array.ext'
  simp [ba]
theorem fault_eq (a1 a2 a3 b1 b2 b3 : Int) (h : FaultD.mk a1 a2 a3 = FaultD.mk b1 b2 b3) (W : World) : (Go.binOp BinOp.eql 26 (.agg #[.int .i64 a1, .int .i64 a2, .int .i64 a3]) (.agg #[.int .i64 b1, .int .i64 b2, .int .i64 b3])).run Tryd.prog W = .ok (.bool true) W := by
  rw [fault_eql, decide_eq_true h]
theorem fault_ne (a1 a2 a3 b1 b2 b3 : Int) (h : FaultD.mk a1 a2 a3 ≠ FaultD.mk b1 b2 b3) (W : World) : (Go.binOp BinOp.eql 26 (.agg #[.int .i64 a1, .int .i64 a2, .int .i64 a3]) (.agg #[.int .i64 b1, .int .i64 b2, .int .i64 b3])).run Tryd.prog W = .ok (.bool false) W := by
  rw [fault_eql, decide_eq_false h]
set_option maxHeartbeats 4000000 in
set_option maxRecDepth 100000 in
theorem chfaults_any (v : Value) (l : List UpD) (s : ByteArray) (w : World) {Pr : Nat → Prop} (hs : Sl upc 8 w v l Pr) (hg : ∀ u ∈ l, GUpd u) (hT : Tabs w) (hL : LibOk w) (hP : Pow w) :
    Calls Tryd.prog 6 #[v, .string s] w fun e w' => e = .returned (.bool true) ∧ Below w.heap.size w w' := by
  obtain ⟨A0, c0, rfl, hl0, hl1⟩ := hs.shape
  have HT := Lib.hid hT
  have HL := Lib.hid hL
  have HP := Lib.hid hP
  have HS := Lib.hid hs
  have HG := Lib.hid hg
  clear hT hL hP hs hg
  go_enter Tryd.func6, Tryd.ntmps6
  go_wp2_with fail
  refine (chlives_any w HT.out HL.out).mono ?_
  rintro e w1 ⟨rfl, hb1⟩
  have HB1 := Lib.hid hb1
  clear hb1
  by_cases hbig : 40 < l.length
  · have t1 : (40 : Int) < (l.length : Int) := by omega
    go_wp2_with fail
    go_ret
    exact ⟨rfl, HB1.out⟩
  have t1 : ¬ (40 : Int) < (l.length : Int) := by omega
  by_cases hbig2 : 1000 < s.size
  · have t2 : (1000 : Int) < (s.size : Int) := by omega
    go_wp2_with fail
    go_ret
    exact ⟨rfl, HB1.out⟩
  have t2 : ¬ (1000 : Int) < (s.size : Int) := by omega
  go_wp2_with fail
  go_loopg [5, 6, 7] l.length (fun gg v5 v6 v7 wr => ∃ j : Nat, j ≤ l.length ∧ l.length - j ≤ gg ∧ v7 = .int .i64 j ∧ v5 = .string (ba (aheadF (l.take j))) ∧ v6 = .int .i64 ((upsU (l.take j)).length : Nat) ∧ Below w.heap.size w wr)
  case atStart => exact ⟨0, Nat.zero_le _, by omega, rfl, rfl, rfl, HB1.out⟩
  case round =>
    obtain ⟨j, hj, hgj, rfl, rfl, rfl, hb⟩ := hrel
    have HB := Lib.hid hb
    clear hb HB1
    by_cases hjl : j < l.length
    · have q0 : (0 : Int) ≤ (j : Int) := by omega
      have q1 : (j : Int) < (l.length : Int) := by omega
      obtain ⟨b4, o4, c4, e4, _, _, hb4, _, hx4⟩ := HS.out.form (by omega)
      have e5 := (Value.slice.inj e4).1
      have e6 := (Value.slice.inj e4).2.2
      subst e5 e6
      obtain ⟨x, hx⟩ : ∃ x, l[j] = x := ⟨_, rfl⟩
      have hxg : GUpd x := HG.out x (by rw [← hx]; exact List.getElem_mem _)
      have hxx : ∀ i y, (upc x)[i]? = some y → wr.cell? ⟨b4, o4 + j * 8 + i, none⟩ = some y := fun i y hy => (HB.out.cell (p := ⟨b4, o4 + j * 8 + i, none⟩) hb4).trans (hx4 j x (by rw [List.getElem?_eq_getElem hjl, hx]) i y hy)
      have hyes := aheadF_yes l j hjl
      have hno := aheadF_no l j hjl
      have hyes2 := upsU_yes l j hjl
      have hno2 := upsU_no l j hjl
      have hle := upsU_le (l.take j)
      have hal := aheadF_len (l.take j)
      have hlt0 : (l.take j).length ≤ 40 := by rw [List.length_take]; omega
      have HAL := Lib.hid (show (aheadF (l.take j)).length ≤ 8000 by omega)
      clear hal hlt0
      rw [hx] at hyes hno hyes2 hno2
      rw [List.length_take] at hle
      obtain ⟨A, hA⟩ : ∃ A, aheadF (l.take j) = A := ⟨_, rfl⟩
      obtain ⟨N, hN⟩ : ∃ N, upsU (l.take j) = N := ⟨_, rfl⟩
      rw [hA] at hyes hno HAL ⊢
      rw [hN] at hyes2 hno2 hle ⊢
      have HYES := Lib.hid hyes
      have HNO := Lib.hid hno
      have HYES2 := Lib.hid hyes2
      have HNO2 := Lib.hid hno2
      have htf := text_facts x
      have HTF := Lib.hid htf
      obtain ⟨kk, nm, no, pos, by_, fr, ev, ln⟩ := x
      have s0 : wr.cell? ⟨b4, o4 + j * 8, none⟩ = some (.int .i64 kk) := hxx 0 _ rfl
      have s1 : wr.cell? ⟨b4, o4 + j * 8 + 1, none⟩ = some (.string (ba nm)) := hxx 1 _ rfl
      have s2 : wr.cell? ⟨b4, o4 + j * 8 + 2, none⟩ = some (.int .i64 no) := hxx 2 _ rfl
      have s3 : wr.cell? ⟨b4, o4 + j * 8 + 3, none⟩ = some (.int .i64 pos) := hxx 3 _ rfl
      have s4 : wr.cell? ⟨b4, o4 + j * 8 + 4, none⟩ = some (.int .i64 by_) := hxx 4 _ rfl
      have s5 : wr.cell? ⟨b4, o4 + j * 8 + 5, none⟩ = some (.int .i64 fr) := hxx 5 _ rfl
      have s6 : wr.cell? ⟨b4, o4 + j * 8 + 6, none⟩ = some (.int .i64 ev) := hxx 6 _ rfl
      have s7 : wr.cell? ⟨b4, o4 + j * 8 + 7, none⟩ = some (.int .i64 ln) := hxx 7 _ rfl
      have hnm := hxg.name
      clear hxx hx4 e4 hx hxg hyes hno hyes2 hno2 hA hN htf
      go_wp2_with fail
      have htx := utext_any kk nm no pos by_ fr ev ln wr hnm (HT.out.below HB.out) (HP.out.below HB.out)
      refine htx.mono ?_
      clear htx s0 s1 s2 s3 s4 s5 s6 s7
      rintro e w3 ⟨rfl, hb3⟩
      have HB3 := Lib.hid (HB.out.trans (hb3.mono HB.out.size))
      clear hb3
      by_cases hc : checkU ⟨kk, nm, no, pos, by_, fr, ev, ln⟩ = 0
      · rw [if_pos hc, hc]
        have hlt := (HTF.out hc).2
        obtain ⟨T, hT⟩ : ∃ T, textU ⟨kk, nm, no, pos, by_, fr, ev, ln⟩ = T := ⟨_, rfl⟩
        have h1 := HYES.out hc
        have h2 := HYES2.out hc
        rw [hT] at hlt h1 ⊢
        have hsz : (ba T).size = T.length := ba_size T
        have hsA : (ba A).size ≤ 8000 := by rw [ba_size]; have := HAL.out; omega
        have hsAT : (ba A ++ ba T).size ≤ 8200 := by rw [ByteArray.size_append]; omega
        have q2 : ((ba T).size : Int) < 200 := by rw [hsz]; omega
        have HR1 := Lib.hid (show ba A ++ ba T ++ ⟨#[10]⟩ = ba (aheadF (l.take (j + 1))) by
          rw [h1, show (⟨#[10]⟩ : ByteArray) = ba [10] from rfl, ba_appU, ba_appU, List.append_assoc])
        have hwr : IntKind.i64.wrap ((N.length : Int) + 1) = ((N.length + 1 : Nat) : Int) := by rw [IntWalk.i64_in _ (by omega)]; omega
        have HR2 := Lib.hid (show (upsU (l.take (j + 1))).length = N.length + 1 by rw [h2, List.length_append]; rfl)
        clear h1 h2 hT hlt hsz hc
        go_wp2_with fail
        go_roundg (l.length - (j + 1))
        case measure => omega
        case rel => exact ⟨j + 1, by omega, by omega, by go_num, by rw [← HR1.out], by rw [HR2.out]; go_num, HB3.out⟩
      · rw [if_neg hc]
        have h1 := Lib.hid (HNO.out hc)
        have h2 := Lib.hid (HNO2.out hc)
        obtain ⟨q, hq⟩ : ∃ q, checkU ⟨kk, nm, no, pos, by_, fr, ev, ln⟩ = q := ⟨_, rfl⟩
        rw [hq] at hc ⊢
        have k1 : (q == 0) = false := beq_eq_false_iff_ne.2 hc
        clear hq hc
        go_wp2_with fail
        go_roundg (l.length - (j + 1))
        case measure => omega
        case rel => exact ⟨j + 1, by omega, by omega, by go_num, by rw [h1.out], by rw [h2.out], HB3.out⟩
    · have hjj : l.take j = l := List.take_of_length_le (by omega)
      rw [hjj]
      have t3 : ¬ (j : Int) < (l.length : Int) := by omega
      have hal := aheadF_len l
      have hul := upsU_le l
      have hys : (ba (aheadF l) ++ s).size = (aheadF l).length + s.size := by rw [ByteArray.size_append, ba_size]
      have hall := faults_all (upsU l) (upsU_ok l) s (ba (aheadF l) ++ s) (by rw [hys]; omega) (by
        rw [show ((ba (aheadF l) ++ s).data.toList) = (ba (aheadF l)).data.toList ++ s.data.toList by simp, ba_list]; rfl)
      have hln := readU_line s (by omega)
      have hok := readU_ok (s := s)
      have hbd := readU_bad (s := s)
      have hra := readU_le s
      have hyz : (ba (aheadF l) ++ s).size ≤ 65536 := by rw [hys]; omega
      obtain ⟨y, hy⟩ : ∃ y, ba (aheadF l) ++ s = y := ⟨_, rfl⟩
      obtain ⟨N, hN⟩ : ∃ N, (upsU l).length = N := ⟨_, rfl⟩
      rw [hy] at hall hyz
      rw [hN] at hall hul ⊢
      obtain ⟨U, hU⟩ : ∃ U, upsU l = U := ⟨_, rfl⟩
      rw [hU] at hall hN
      have HALL := Lib.hid hall
      have HOK := Lib.hid hok
      have HBD := Lib.hid hbd
      have HY := Lib.hid hy
      have hsA : (ba (aheadF l)).size ≤ 8000 := by rw [ba_size]; omega
      clear hjj hal hys hall hok hbd hy hU
      go_wp2_with fail
      have hca := chall_any s wr (by omega) (HT.out.below HB.out) (HL.out.below HB.out)
      refine hca.mono ?_
      clear hca
      rintro e w3 ⟨va, rfl, ho3, hb3⟩
      obtain ⟨⟨ua, ba1, e1, e2, e3⟩, hra1⟩ : ∃ r, readU s = r := ⟨_, rfl⟩
      obtain ⟨⟨ub, bb1, g1, g2, g3⟩, hrb1⟩ : ∃ r, readU y = r := ⟨_, rfl⟩
      have hj1 := HALL.out
      have hj2 := HOK.out
      have hj3 := HBD.out
      rw [hra1] at ho3 hln hra hj1 hj2 hj3 ⊢
      rw [hrb1] at hj1
      dsimp only at ho3 hln hra hj1 hj2 hj3 ⊢
      obtain ⟨A1, c1, rfl, _, _⟩ := ho3.shape
      have HRB := Lib.hid hrb1
      have HJ1 := Lib.hid hj1
      have HJ2 := Lib.hid hj2
      have HJ3 := Lib.hid hj3
      have HB3 := Lib.hid (HB.out.trans (hb3.mono HB.out.size))
      have hz3 := HB3.out.size
      clear ho3 hb3 hra1 hrb1 hj1 hj2 hj3 HALL HOK HBD
      go_wp2_with fail
      obtain ⟨wA, hwA⟩ : ∃ wA, w3.alloc (.cells #[.int .i64 e1, .int .i64 e2, .int .i64 e3] 26) = wA := ⟨_, rfl⟩
      have HQA := Lib.hid (show wA.heap[w3.heap.size]? = some (.cells #[.int .i64 e1, .int .i64 e2, .int .i64 e3] 26 (0, 0)) by rw [← hwA]; exact heap_alloc_new _ _)
      have HBA := Lib.hid (show Below w.heap.size w wA by rw [← hwA]; exact HB3.out.alloc HB3.out.size _)
      have hlA : w3.heap.size < wA.heap.size := (Array.getElem?_eq_some_iff.1 HQA.out).1
      rw [hwA, HY.out]
      clear hwA HY HB3 HB
      have hca := chall_any y wA hyz (HT.out.below HBA.out) (HL.out.below HBA.out)
      rw [HRB.out] at hca
      dsimp only at hca
      refine hca.mono ?_
      clear hca
      rintro e w4 ⟨vb, rfl, ho4, hb4⟩
      obtain ⟨A2, c2, rfl, _, _⟩ := ho4.shape
      have HB4 := Lib.hid (HBA.out.trans (hb4.mono HBA.out.size))
      have HQ4 := Lib.hid ((hb4.block _ hlA).trans HQA.out)
      have hzA : wA.heap.size ≤ w4.heap.size := hb4.size
      clear ho4 hb4 HQA HBA
      go_upto_region 15 with fail
      obtain ⟨wC, hwC⟩ : ∃ wC, w4.alloc (.cells #[.int .i64 g1, .int .i64 g2, .int .i64 g3] 26) = wC := ⟨_, rfl⟩
      have HQC := Lib.hid (show wC.heap[w4.heap.size]? = some (.cells #[.int .i64 g1, .int .i64 g2, .int .i64 g3] 26 (0, 0)) by rw [← hwC]; exact heap_alloc_new _ _)
      have HPC := Lib.hid (alloc_cells HQ4.out hwC)
      have HBC := Lib.hid (show Below w.heap.size w wC by rw [← hwC]; exact HB4.out.alloc HB4.out.size _)
      rw [hwC]
      clear hwC HQ4 HB4
      have x0 : wC.cell? ⟨w3.heap.size, 0, none⟩ = some (.int .i64 e1) := Lib.cell_of_heap HPC.out 0
      have x1 : wC.cell? ⟨w3.heap.size, 1, none⟩ = some (.int .i64 e2) := Lib.cell_of_heap HPC.out 1
      have x2 : wC.cell? ⟨w3.heap.size, 2, none⟩ = some (.int .i64 e3) := Lib.cell_of_heap HPC.out 2
      have x3 : wC.frozen? ⟨w3.heap.size, 1, none⟩ = false := Lib.frozen_of_heap HPC.out 1
      have y0 : wC.cell? ⟨w4.heap.size, 0, none⟩ = some (.int .i64 g1) := Lib.cell_of_heap HQC.out 0
      have y1 : wC.cell? ⟨w4.heap.size, 1, none⟩ = some (.int .i64 g2) := Lib.cell_of_heap HQC.out 1
      have y2 : wC.cell? ⟨w4.heap.size, 2, none⟩ = some (.int .i64 g3) := Lib.cell_of_heap HQC.out 2
      by_cases he : e1 = 0
      · obtain ⟨d1, d2⟩ := HJ2.out he
        obtain ⟨k1, k2, k3, k4⟩ := HJ1.out.1 he
        have f1 := fault_eq e1 e2 e3 0 0 0 (by rw [he, d1, d2])
        have f2 := fault_eq g1 g2 g3 0 0 0 (by rw [k2, k3, k4])
        have hwr : IntKind.i64.wrap ((N : Int) + (ua.length : Int)) = (N : Int) + (ua.length : Int) := IntWalk.i64_in _ (by omega)
        have f3 : ((ub.length : Int) == (N : Int) + (ua.length : Int)) = true := by
          rw [k1, List.length_append, hN]
          exact beq_iff_eq.2 (by omega)
        clear HJ1 HJ2 HJ3 he d1 d2 k1 k2 k3 k4
        go_wp2_with fail
        go_ret
        exact ⟨rfl, HBC.out⟩
      · have d1 := HJ3.out he
        obtain ⟨k1, k2, k3, k4⟩ := HJ1.out.2 he
        have f1 := fault_ne e1 e2 e3 0 0 0 (fun h => he (by injection h))
        have hwr : IntKind.i64.wrap (e2 + (N : Int)) = e2 + (N : Int) := IntWalk.i64_in _ (by omega)
        have f2 := fault_eq e1 (e2 + (N : Int)) e3 g1 g2 g3 (by rw [k2, k3, k4])
        have f3 : ((ua.length : Int) == 0) = true := by rw [d1]; rfl
        have f4 : ((ub.length : Int) == 0) = true := by rw [k1]; rfl
        have hne : ¬ w4.heap.size = w3.heap.size := by omega
        have hne2 : ¬ w3.heap.size = w4.heap.size := by omega
        clear HJ1 HJ2 HJ3 he d1 k1 k2 k3 k4
        go_wp2_with fail
        go_ret
        refine ⟨rfl, ?_⟩
        exact HBC.out.setCell (p := ⟨w3.heap.size, 1, none⟩) (by show w.heap.size ≤ w3.heap.size; omega) _
end Go.Proofs.YtlclkeihkkpdbaaDoor
