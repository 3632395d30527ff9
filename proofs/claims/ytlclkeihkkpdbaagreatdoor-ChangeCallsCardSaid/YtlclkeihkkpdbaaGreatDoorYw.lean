/- The law ChangeCalls: its walk. Printed by wip/bin/genyw.py. -/
import Derived.Test.YtlclkeihkkpdbaaGreatDoorYj
import Derived.Test.YtlclkeihkkpdbaaGreatDoorYk
import Derived.Test.YtlclkeihkkpdbaaGreatDoorUtz
import Derived.Test.YtlclkeihkkpdbaaGreatDoorUoz
import Derived.Test.YtlclkeihkkpdbaaGreatDoorUop
import Derived.Deep.CutBlock
import Derived.Deep.CutRange
import Derived.Deep.DeepCutAuto
namespace Go.Proofs.YtlclkeihkkpdbaaGreatDoor
open Go.RowKit
theorem readL_le : ∀ gs : List (List TokD), (readL gs).us.length ≤ gs.length := by
  intro gs
  induction gs with
  | nil => exact Nat.le_refl _
  | cons g gs ih =>
    unfold readL
    split
    · exact Nat.zero_le _
    · split
      · exact Nat.zero_le _
      · simpa using ih
theorem splitE_le : ∀ (l acc : List TokD), (splitE acc l).length ≤ l.length + 1 := by
  intro l
  induction l with
  | nil =>
    intro acc
    unfold splitE
    split <;> simp
  | cons t l ih =>
    intro acc
    unfold splitE
    split
    · simpa using ih []
    · exact Nat.le_trans (ih _) (by simp)
theorem readU_le (s : ByteArray) : (readU s).us.length ≤ 2 * s.size + 1 := by
  unfold readU
  split
  · exact Nat.zero_le _
  · have h1 := readL_le (splitE [] (allD s).1)
    have h2 := splitE_le (allD s).1 []
    have h3 := tok_count s
    omega
theorem upd_eql (a b : UpD) (W : World) : (Go.binOp BinOp.eql 25 (.agg #[.int .i64 a.kind, .string (ba a.name), .int .i64 a.no, .int .i64 a.pos, .int .i64 a.by_, .int .i64 a.from_, .int .i64 a.every, .int .i64 a.len]) (.agg #[.int .i64 b.kind, .string (ba b.name), .int .i64 b.no, .int .i64 b.pos, .int .i64 b.by_, .int .i64 b.from_, .int .i64 b.every, .int .i64 b.len])).run Tryz.prog W = .ok (.bool (decide (a = b))) W := by
  obtain ⟨a1, a2, a3, a4, a5, a6, a7, a8⟩ := a
  obtain ⟨b1, b2, b3, b4, b5, b6, b7, b8⟩ := b
  rw [show decide (UpD.mk a1 a2 a3 a4 a5 a6 a7 a8 = UpD.mk b1 b2 b3 b4 b5 b6 b7 b8) = ((a1 == b1) && ((a2 == b2) && ((a3 == b3) && ((a4 == b4) && ((a5 == b5) && ((a6 == b6) && ((a7 == b7) && (a8 == b8)))))))) by
    rw [Bool.eq_iff_iff]; simp]
  go_simp
  rw [ba_toList, ba_toList]
  by_cases h1 : a1 = b1 <;> by_cases h2 : a2 = b2 <;> by_cases h3 : a3 = b3 <;> by_cases h4 : a4 = b4 <;> by_cases h5 : a5 = b5 <;> by_cases h6 : a6 = b6 <;> by_cases h7 : a7 = b7 <;> by_cases h8 : a8 = b8 <;> simp [h1, h2, h3, h4, h5, h6, h7, h8]
set_option maxHeartbeats 1000000 in
theorem chsame_any (a b : UpD) (w : World) : Calls Tryz.prog 14 #[.agg #[.int .i64 a.kind, .string (ba a.name), .int .i64 a.no, .int .i64 a.pos, .int .i64 a.by_, .int .i64 a.from_, .int .i64 a.every, .int .i64 a.len], .agg #[.int .i64 b.kind, .string (ba b.name), .int .i64 b.no, .int .i64 b.pos, .int .i64 b.by_, .int .i64 b.from_, .int .i64 b.every, .int .i64 b.len]] w fun e w' => e = .returned (.bool (decide (a = b))) ∧ Below w.heap.size w w' := by
  have hq := upd_eql a b
  go_enter Tryz.func14, Tryz.ntmps14
  go_wp2_with fail
  go_ret
  exact ⟨rfl, ((Below.refl _ _).alloc (Nat.le_refl _) _).alloc (by simp) _⟩
theorem upd_yes (k : Int) (nm : List UInt8) (no pos by_ fr ev ln : Int) (W : World) : (Go.binOp BinOp.eql 25 (.agg #[.int .i64 k, .string (ba nm), .int .i64 no, .int .i64 pos, .int .i64 by_, .int .i64 fr, .int .i64 ev, .int .i64 ln]) (.agg #[.int .i64 k, .string (ba nm), .int .i64 no, .int .i64 pos, .int .i64 by_, .int .i64 fr, .int .i64 ev, .int .i64 ln])).run Tryz.prog W = .ok (.bool true) W := by
  have h := upd_eql (⟨k, nm, no, pos, by_, fr, ev, ln⟩ : UpD) (⟨k, nm, no, pos, by_, fr, ev, ln⟩ : UpD) W
  rw [decide_eq_true rfl] at h
  exact h
theorem fault_yes (a1 a2 a3 : Int) (W : World) : (Go.binOp BinOp.eql 30 (.agg #[.int .i64 a1, .int .i64 a2, .int .i64 a3]) (.agg #[.int .i64 a1, .int .i64 a2, .int .i64 a3])).run Tryz.prog W = .ok (.bool true) W := by
  rw [fault_eql, decide_eq_true rfl]
set_option maxHeartbeats 16000000 in
set_option maxRecDepth 100000 in
theorem chcalls_any (s : ByteArray) (k : Int) (nm : List UInt8) (no pos by_ fr ev ln k2 : Int) (nm2 : List UInt8) (no2 pos2 by2 fr2 ev2 ln2 : Int) (w : World) (hn : nm.length ≤ maxLen) (hT : Tabs w) (hL : LibOk w) (hP : Pow w) :
    Calls Tryz.prog 3 #[.string s, .agg #[.int .i64 k, .string (ba nm), .int .i64 no, .int .i64 pos, .int .i64 by_, .int .i64 fr, .int .i64 ev, .int .i64 ln], .agg #[.int .i64 k2, .string (ba nm2), .int .i64 no2, .int .i64 pos2, .int .i64 by2, .int .i64 fr2, .int .i64 ev2, .int .i64 ln2]] w fun e w' => e = .returned (.bool true) ∧ Below w.heap.size w w' := by
  have HT := Lib.hid hT
  have HL := Lib.hid hL
  have HP := Lib.hid hP
  clear hT hL hP
  go_enter Tryz.func3, Tryz.ntmps3
  go_upto_region 1 with fail
  obtain ⟨w1, hw1⟩ : ∃ w1, (w.alloc (.cells #[.int .i64 k, .string (ba nm), .int .i64 no, .int .i64 pos, .int .i64 by_, .int .i64 fr, .int .i64 ev, .int .i64 ln] 25)).alloc (.cells #[.int .i64 k2, .string (ba nm2), .int .i64 no2, .int .i64 pos2, .int .i64 by2, .int .i64 fr2, .int .i64 ev2, .int .i64 ln2] 25) = w1 := ⟨_, rfl⟩
  have HQU := Lib.hid (show w1.heap[w.heap.size]? = some (.cells #[.int .i64 k, .string (ba nm), .int .i64 no, .int .i64 pos, .int .i64 by_, .int .i64 fr, .int .i64 ev, .int .i64 ln] 25 (0, 0)) by rw [← hw1, Below.heap_alloc _ _ _ (by simp)]; exact heap_alloc_new _ _)
  have HQO := Lib.hid (show w1.heap[w.heap.size + 1]? = some (.cells #[.int .i64 k2, .string (ba nm2), .int .i64 no2, .int .i64 pos2, .int .i64 by2, .int .i64 fr2, .int .i64 ev2, .int .i64 ln2] 25 (0, 0)) by rw [← hw1]; exact alloc2_new _ _ _)
  have HB1 := Lib.hid (show Below w.heap.size w w1 by rw [← hw1]; exact ((Below.refl _ _).alloc (Nat.le_refl _) _).alloc (by simp) _)
  have HZ1 := Lib.hid (show w1.heap.size = w.heap.size + 2 by rw [← hw1]; simp)
  rw [hw1]
  clear hw1
  go_wp2_with fail
  refine (chlives_any w1 (HT.out.below HB1.out) (HL.out.below HB1.out)).mono ?_
  rintro e w2 ⟨rfl, hb⟩
  have K1 := Lib.hid hb
  have HB2 := Lib.hid (HB1.out.trans (hb.mono HB1.out.size))
  clear hb
  by_cases hbig : 2000 < s.size
  · have t1 : (2000 : Int) < (s.size : Int) := by omega
    go_wp2_with fail
    go_ret
    exact ⟨rfl, HB2.out⟩
  have t1 : ¬ (2000 : Int) < (s.size : Int) := by omega
  have hu2 := (K1.out.block w.heap.size (by have := HZ1.out; omega)).trans HQU.out
  have u1 : w2.cell? ⟨w.heap.size, 1, none⟩ = some (.string (ba nm)) := Lib.cell_of_heap hu2 1
  by_cases hbig2 : 2000 < (ba nm).size
  · have t2 : (2000 : Int) < ((ba nm).size : Int) := by omega
    clear hu2
    go_wp2_with fail
    go_ret
    exact ⟨rfl, HB2.out⟩
  have t2 : ¬ (2000 : Int) < ((ba nm).size : Int) := by omega
  have ho2 := (K1.out.block (w.heap.size + 1) (by have := HZ1.out; omega)).trans HQO.out
  have o1 : w2.cell? ⟨w.heap.size + 1, 1, none⟩ = some (.string (ba nm2)) := Lib.cell_of_heap ho2 1
  by_cases hbig3 : 2000 < (ba nm2).size
  · have t3 : (2000 : Int) < ((ba nm2).size : Int) := by omega
    clear hu2 ho2
    go_wp2_with fail
    go_ret
    exact ⟨rfl, HB2.out⟩
  have t3 : ¬ (2000 : Int) < ((ba nm2).size : Int) := by omega
  have hlen := readU_len s
  have hsz : s.size ≤ 65536 := by omega
  have hca := chall_any s w2 hsz (HT.out.below HB2.out) (HL.out.below HB2.out)
  have hza := fun W => zall_any s W hsz
  have hcp := fun (W : World) h1 h2 => chparse_any s W hsz h1 h2
  have hzp := fun W => zparse_any s W hsz
  obtain ⟨us, h0⟩ : ∃ x, (readU s).us = x := ⟨_, rfl⟩
  obtain ⟨e1, h1⟩ : ∃ x, (readU s).err = x := ⟨_, rfl⟩
  obtain ⟨e2, h2⟩ : ∃ x, (readU s).line = x := ⟨_, rfl⟩
  obtain ⟨e3, h3⟩ : ∃ x, (readU s).col = x := ⟨_, rfl⟩
  obtain ⟨⟨⟨pk, pn, pno, ppos, pby, pfr, pev, pln⟩, f1, f2, f3⟩, h4⟩ : ∃ x, parseU s = x := ⟨_, rfl⟩
  simp only [h0, h1, h2, h3] at hca hza
  simp only [h4] at hcp hzp
  dsimp only [upc] at hcp hzp
  have hus : us.length ≤ 1048576 := by
    have h := readU_le s
    rw [h0] at h
    omega
  have HZA := Lib.hid hza
  have HCP := Lib.hid hcp
  have HZP := Lib.hid hzp
  have HUS := Lib.hid hus
  clear hlen hsz h0 h1 h2 h3 h4 hza hcp hzp hus hu2 ho2
  go_wp2_with fail
  refine hca.mono ?_
  clear hca u1 o1 t1 t2 t3 hbig hbig2 hbig3
  rintro e w3 ⟨va, rfl, ho, hb⟩
  obtain ⟨Av, cv, rfl, _, _⟩ := ho.shape
  have HS3 := Lib.hid (ho.sl upc_len |>.mono (P' := fun _ => True) fun _ _ => trivial)
  have HC3 := Lib.hid hb
  clear ho hb
  go_wp2_with fail
  obtain ⟨wA, hwA⟩ : ∃ wA, w3.alloc (.cells #[.int .i64 e1, .int .i64 e2, .int .i64 e3] 30) = wA := ⟨_, rfl⟩
  have HQF := Lib.hid (show wA.heap[w3.heap.size]? = some (.cells #[.int .i64 e1, .int .i64 e2, .int .i64 e3] 30 (0, 0)) by rw [← hwA]; exact heap_alloc_new _ _)
  have HSA := Lib.hid (show Sl upc 8 wA (.slice Av us.length cv) us (fun _ => True) by rw [← hwA]; exact HS3.out.alloc _)
  have K2 := Lib.hid (show Below w2.heap.size w2 wA by rw [← hwA]; exact HC3.out.alloc HC3.out.size _)
  have HBA := Lib.hid (HB2.out.trans (K2.out.mono HB2.out.size))
  rw [hwA]
  clear hwA HC3 HS3
  refine (HZA.out wA).mono ?_
  rintro e w4 ⟨vb, rfl, ho, hb⟩
  obtain ⟨Bv, cw, rfl, _, _⟩ := ho.shape
  have HS4 := Lib.hid (ho.sl upc_len |>.mono (P' := fun _ => True) fun _ _ => trivial)
  have HC4 := Lib.hid hb
  clear ho hb HZA
  go_wp2_with fail
  obtain ⟨wB, hwB⟩ : ∃ wB, w4.alloc (.cells #[.int .i64 e1, .int .i64 e2, .int .i64 e3] 30) = wB := ⟨_, rfl⟩
  have HQG := Lib.hid (show wB.heap[w4.heap.size]? = some (.cells #[.int .i64 e1, .int .i64 e2, .int .i64 e3] 30 (0, 0)) by rw [← hwB]; exact heap_alloc_new _ _)
  have HSB := Lib.hid (show Sl upc 8 wB (.slice Bv us.length cw) us (fun _ => True) by rw [← hwB]; exact HS4.out.alloc _)
  have K3 := Lib.hid (show Below wA.heap.size wA wB by rw [← hwB]; exact HC4.out.alloc HC4.out.size _)
  have HBB := Lib.hid (HBA.out.trans (K3.out.mono HBA.out.size))
  rw [hwB]
  clear hwB HC4 HS4
  refine (HCP.out wB (HT.out.below HBB.out) (HL.out.below HBB.out)).mono ?_
  rintro e w5 ⟨rfl, hb⟩
  have HC5 := Lib.hid hb
  clear hb HCP
  go_wp2_with fail
  obtain ⟨wC, hwC⟩ : ∃ wC, (w5.alloc (.cells #[.int .i64 pk, .string (ba pn), .int .i64 pno, .int .i64 ppos, .int .i64 pby, .int .i64 pfr, .int .i64 pev, .int .i64 pln] 25)).alloc (.cells #[.int .i64 f1, .int .i64 f2, .int .i64 f3] 30) = wC := ⟨_, rfl⟩
  have HQX := Lib.hid (show wC.heap[w5.heap.size]? = some (.cells #[.int .i64 pk, .string (ba pn), .int .i64 pno, .int .i64 ppos, .int .i64 pby, .int .i64 pfr, .int .i64 pev, .int .i64 pln] 25 (0, 0)) by rw [← hwC, Below.heap_alloc _ _ _ (by simp)]; exact heap_alloc_new _ _)
  have HQH := Lib.hid (show wC.heap[w5.heap.size + 1]? = some (.cells #[.int .i64 f1, .int .i64 f2, .int .i64 f3] 30 (0, 0)) by rw [← hwC]; exact alloc2_new _ _ _)
  have K4 := Lib.hid (show Below wB.heap.size wB wC by rw [← hwC]; exact (HC5.out.alloc HC5.out.size _).alloc (by have := HC5.out.size; simp; omega) _)
  have HBC := Lib.hid (HBB.out.trans (K4.out.mono HBB.out.size))
  rw [hwC]
  clear hwC HC5
  refine (HZP.out wC).mono ?_
  rintro e w6 ⟨rfl, hb⟩
  have HC6 := Lib.hid hb
  clear hb HZP
  go_upto_region 9 with fail
  obtain ⟨wD, hwD⟩ : ∃ wD, (w6.alloc (.cells #[.int .i64 pk, .string (ba pn), .int .i64 pno, .int .i64 ppos, .int .i64 pby, .int .i64 pfr, .int .i64 pev, .int .i64 pln] 25)).alloc (.cells #[.int .i64 f1, .int .i64 f2, .int .i64 f3] 30) = wD := ⟨_, rfl⟩
  have HQY := Lib.hid (show wD.heap[w6.heap.size]? = some (.cells #[.int .i64 pk, .string (ba pn), .int .i64 pno, .int .i64 ppos, .int .i64 pby, .int .i64 pfr, .int .i64 pev, .int .i64 pln] 25 (0, 0)) by rw [← hwD, Below.heap_alloc _ _ _ (by simp)]; exact heap_alloc_new _ _)
  have HQI := Lib.hid (show wD.heap[w6.heap.size + 1]? = some (.cells #[.int .i64 f1, .int .i64 f2, .int .i64 f3] 30 (0, 0)) by rw [← hwD]; exact alloc2_new _ _ _)
  have K5 := Lib.hid (show Below wC.heap.size wC wD by rw [← hwD]; exact (HC6.out.alloc HC6.out.size _).alloc (by have := HC6.out.size; simp; omega) _)
  have HBD := Lib.hid (HBC.out.trans (K5.out.mono HBC.out.size))
  rw [hwD]
  clear hwD HC6
  have TC := K5.out
  have TB := K4.out.trans (TC.mono K4.out.size)
  have TA := K3.out.trans (TB.mono K3.out.size)
  have T2 := K2.out.trans (TA.mono K2.out.size)
  have T1 := K1.out.trans (T2.mono K1.out.size)
  have hqU := (T1.block _ (by have := HZ1.out; omega)).trans HQU.out

  have uc0 : wD.cell? ⟨w.heap.size, 0, none⟩ = some (.int .i64 k) := Lib.cell_of_heap hqU 0
  have uc1 : wD.cell? ⟨w.heap.size, 1, none⟩ = some (.string (ba nm)) := Lib.cell_of_heap hqU 1
  have uc2 : wD.cell? ⟨w.heap.size, 2, none⟩ = some (.int .i64 no) := Lib.cell_of_heap hqU 2
  have uc3 : wD.cell? ⟨w.heap.size, 3, none⟩ = some (.int .i64 pos) := Lib.cell_of_heap hqU 3
  have uc4 : wD.cell? ⟨w.heap.size, 4, none⟩ = some (.int .i64 by_) := Lib.cell_of_heap hqU 4
  have uc5 : wD.cell? ⟨w.heap.size, 5, none⟩ = some (.int .i64 fr) := Lib.cell_of_heap hqU 5
  have uc6 : wD.cell? ⟨w.heap.size, 6, none⟩ = some (.int .i64 ev) := Lib.cell_of_heap hqU 6
  have uc7 : wD.cell? ⟨w.heap.size, 7, none⟩ = some (.int .i64 ln) := Lib.cell_of_heap hqU 7
  obtain ⟨c, hc⟩ : ∃ c, checkU (⟨k, nm, no, pos, by_, fr, ev, ln⟩ : UpD) = c := ⟨_, rfl⟩
  obtain ⟨V, hV⟩ : ∃ V, ba (if checkU (⟨k, nm, no, pos, by_, fr, ev, ln⟩ : UpD) = 0 then textU (⟨k, nm, no, pos, by_, fr, ev, ln⟩ : UpD) else []) = V := ⟨_, rfl⟩
  have htx := utext_any k nm no pos by_ fr ev ln wD hn (HT.out.below HBD.out) (HP.out.below HBD.out)
  have hzt := fun W => ztext_any k nm no pos by_ fr ev ln W hn
  rw [hV, hc] at htx
  simp only [hV] at hzt
  simp only [hc] at hzt
  have HZT := Lib.hid hzt
  have HCC := Lib.hid hc
  clear hV hc hzt T1 T2 TA TB TC hqU
  go_wp2_with fail
  refine htx.mono ?_
  clear htx uc0 uc1 uc2 uc3 uc4 uc5 uc6 uc7
  rintro e w7 ⟨rfl, hb⟩
  have K6 := Lib.hid hb
  clear hb
  have TD := K6.out
  have TC := K5.out.trans (TD.mono K5.out.size)
  have TB := K4.out.trans (TC.mono K4.out.size)
  have TA := K3.out.trans (TB.mono K3.out.size)
  have T2 := K2.out.trans (TA.mono K2.out.size)
  have T1 := K1.out.trans (T2.mono K1.out.size)
  have hqU := (T1.block _ (by have := HZ1.out; omega)).trans HQU.out
  have uc0 : w7.cell? ⟨w.heap.size, 0, none⟩ = some (.int .i64 k) := Lib.cell_of_heap hqU 0
  have uc1 : w7.cell? ⟨w.heap.size, 1, none⟩ = some (.string (ba nm)) := Lib.cell_of_heap hqU 1
  have uc2 : w7.cell? ⟨w.heap.size, 2, none⟩ = some (.int .i64 no) := Lib.cell_of_heap hqU 2
  have uc3 : w7.cell? ⟨w.heap.size, 3, none⟩ = some (.int .i64 pos) := Lib.cell_of_heap hqU 3
  have uc4 : w7.cell? ⟨w.heap.size, 4, none⟩ = some (.int .i64 by_) := Lib.cell_of_heap hqU 4
  have uc5 : w7.cell? ⟨w.heap.size, 5, none⟩ = some (.int .i64 fr) := Lib.cell_of_heap hqU 5
  have uc6 : w7.cell? ⟨w.heap.size, 6, none⟩ = some (.int .i64 ev) := Lib.cell_of_heap hqU 6
  have uc7 : w7.cell? ⟨w.heap.size, 7, none⟩ = some (.int .i64 ln) := Lib.cell_of_heap hqU 7
  clear T1 T2 TA TB TC TD hqU
  go_wp2_with fail
  refine (HZT.out w7).mono ?_
  clear HZT uc0 uc1 uc2 uc3 uc4 uc5 uc6 uc7
  rintro e w8 ⟨rfl, hb⟩
  have TD := K6.out.trans (hb.mono K6.out.size)
  clear hb
  have TC := K5.out.trans (TD.mono K5.out.size)
  have TB := K4.out.trans (TC.mono K4.out.size)
  have TA := K3.out.trans (TB.mono K3.out.size)
  have T2 := K2.out.trans (TA.mono K2.out.size)
  have T1 := K1.out.trans (T2.mono K1.out.size)
  have HB8 := Lib.hid (HB1.out.trans (T1.mono HB1.out.size))
  go_wp2_with fail
  have lt : ∀ {W : World} {q : Nat} {o : Obj}, W.heap[q]? = some o → q < W.heap.size := fun h => (Array.getElem?_eq_some_iff.1 h).1
  have hqU := (T1.block _ (lt HQU.out)).trans HQU.out
  have hqO := (T1.block _ (lt HQO.out)).trans HQO.out
  have hqF := (TA.block _ (lt HQF.out)).trans HQF.out
  have hqG := (TB.block _ (lt HQG.out)).trans HQG.out
  have hqX := (TC.block _ (lt HQX.out)).trans HQX.out
  have hqH := (TC.block _ (lt HQH.out)).trans HQH.out
  have hqY := (TD.block _ (lt HQY.out)).trans HQY.out
  have hqI := (TD.block _ (lt HQI.out)).trans HQI.out
  have ltU := lt hqU
  have ltO := lt hqO
  have ltF := lt hqF
  have ltG := lt hqG
  have ltX := lt hqX
  have ltH := lt hqH
  have ltY := lt hqY
  have ltI := lt hqI
  have HSA8 := Lib.hid (HSA.out.below_ TA)
  have HSB8 := Lib.hid (HSB.out.below_ TB)
  have HC := Lib.hid (fun (wy : World) (hy : Below w8.heap.size w8 wy) => (show wy.cell? ⟨w.heap.size, 0, none⟩ = some (.int .i64 k) ∧ wy.cell? ⟨w.heap.size, 1, none⟩ = some (.string (ba nm)) ∧ wy.cell? ⟨w.heap.size, 2, none⟩ = some (.int .i64 no) ∧ wy.cell? ⟨w.heap.size, 3, none⟩ = some (.int .i64 pos) ∧ wy.cell? ⟨w.heap.size, 4, none⟩ = some (.int .i64 by_) ∧ wy.cell? ⟨w.heap.size, 5, none⟩ = some (.int .i64 fr) ∧ wy.cell? ⟨w.heap.size, 6, none⟩ = some (.int .i64 ev) ∧ wy.cell? ⟨w.heap.size, 7, none⟩ = some (.int .i64 ln) ∧ wy.cell? ⟨w.heap.size + 1, 0, none⟩ = some (.int .i64 k2) ∧ wy.cell? ⟨w.heap.size + 1, 1, none⟩ = some (.string (ba nm2)) ∧ wy.cell? ⟨w.heap.size + 1, 2, none⟩ = some (.int .i64 no2) ∧ wy.cell? ⟨w.heap.size + 1, 3, none⟩ = some (.int .i64 pos2) ∧ wy.cell? ⟨w.heap.size + 1, 4, none⟩ = some (.int .i64 by2) ∧ wy.cell? ⟨w.heap.size + 1, 5, none⟩ = some (.int .i64 fr2) ∧ wy.cell? ⟨w.heap.size + 1, 6, none⟩ = some (.int .i64 ev2) ∧ wy.cell? ⟨w.heap.size + 1, 7, none⟩ = some (.int .i64 ln2) ∧ wy.cell? ⟨w3.heap.size, 0, none⟩ = some (.int .i64 e1) ∧ wy.cell? ⟨w3.heap.size, 1, none⟩ = some (.int .i64 e2) ∧ wy.cell? ⟨w3.heap.size, 2, none⟩ = some (.int .i64 e3) ∧ wy.cell? ⟨w4.heap.size, 0, none⟩ = some (.int .i64 e1) ∧ wy.cell? ⟨w4.heap.size, 1, none⟩ = some (.int .i64 e2) ∧ wy.cell? ⟨w4.heap.size, 2, none⟩ = some (.int .i64 e3) ∧ wy.cell? ⟨w5.heap.size, 0, none⟩ = some (.int .i64 pk) ∧ wy.cell? ⟨w5.heap.size, 1, none⟩ = some (.string (ba pn)) ∧ wy.cell? ⟨w5.heap.size, 2, none⟩ = some (.int .i64 pno) ∧ wy.cell? ⟨w5.heap.size, 3, none⟩ = some (.int .i64 ppos) ∧ wy.cell? ⟨w5.heap.size, 4, none⟩ = some (.int .i64 pby) ∧ wy.cell? ⟨w5.heap.size, 5, none⟩ = some (.int .i64 pfr) ∧ wy.cell? ⟨w5.heap.size, 6, none⟩ = some (.int .i64 pev) ∧ wy.cell? ⟨w5.heap.size, 7, none⟩ = some (.int .i64 pln) ∧ wy.cell? ⟨w5.heap.size + 1, 0, none⟩ = some (.int .i64 f1) ∧ wy.cell? ⟨w5.heap.size + 1, 1, none⟩ = some (.int .i64 f2) ∧ wy.cell? ⟨w5.heap.size + 1, 2, none⟩ = some (.int .i64 f3) ∧ wy.cell? ⟨w6.heap.size, 0, none⟩ = some (.int .i64 pk) ∧ wy.cell? ⟨w6.heap.size, 1, none⟩ = some (.string (ba pn)) ∧ wy.cell? ⟨w6.heap.size, 2, none⟩ = some (.int .i64 pno) ∧ wy.cell? ⟨w6.heap.size, 3, none⟩ = some (.int .i64 ppos) ∧ wy.cell? ⟨w6.heap.size, 4, none⟩ = some (.int .i64 pby) ∧ wy.cell? ⟨w6.heap.size, 5, none⟩ = some (.int .i64 pfr) ∧ wy.cell? ⟨w6.heap.size, 6, none⟩ = some (.int .i64 pev) ∧ wy.cell? ⟨w6.heap.size, 7, none⟩ = some (.int .i64 pln) ∧ wy.cell? ⟨w6.heap.size + 1, 0, none⟩ = some (.int .i64 f1) ∧ wy.cell? ⟨w6.heap.size + 1, 1, none⟩ = some (.int .i64 f2) ∧ wy.cell? ⟨w6.heap.size + 1, 2, none⟩ = some (.int .i64 f3) from ⟨(hy.cell (p := ⟨w.heap.size, 0, none⟩) ltU).trans (Lib.cell_of_heap hqU 0), (hy.cell (p := ⟨w.heap.size, 1, none⟩) ltU).trans (Lib.cell_of_heap hqU 1), (hy.cell (p := ⟨w.heap.size, 2, none⟩) ltU).trans (Lib.cell_of_heap hqU 2), (hy.cell (p := ⟨w.heap.size, 3, none⟩) ltU).trans (Lib.cell_of_heap hqU 3), (hy.cell (p := ⟨w.heap.size, 4, none⟩) ltU).trans (Lib.cell_of_heap hqU 4), (hy.cell (p := ⟨w.heap.size, 5, none⟩) ltU).trans (Lib.cell_of_heap hqU 5), (hy.cell (p := ⟨w.heap.size, 6, none⟩) ltU).trans (Lib.cell_of_heap hqU 6), (hy.cell (p := ⟨w.heap.size, 7, none⟩) ltU).trans (Lib.cell_of_heap hqU 7), (hy.cell (p := ⟨w.heap.size + 1, 0, none⟩) ltO).trans (Lib.cell_of_heap hqO 0), (hy.cell (p := ⟨w.heap.size + 1, 1, none⟩) ltO).trans (Lib.cell_of_heap hqO 1), (hy.cell (p := ⟨w.heap.size + 1, 2, none⟩) ltO).trans (Lib.cell_of_heap hqO 2), (hy.cell (p := ⟨w.heap.size + 1, 3, none⟩) ltO).trans (Lib.cell_of_heap hqO 3), (hy.cell (p := ⟨w.heap.size + 1, 4, none⟩) ltO).trans (Lib.cell_of_heap hqO 4), (hy.cell (p := ⟨w.heap.size + 1, 5, none⟩) ltO).trans (Lib.cell_of_heap hqO 5), (hy.cell (p := ⟨w.heap.size + 1, 6, none⟩) ltO).trans (Lib.cell_of_heap hqO 6), (hy.cell (p := ⟨w.heap.size + 1, 7, none⟩) ltO).trans (Lib.cell_of_heap hqO 7), (hy.cell (p := ⟨w3.heap.size, 0, none⟩) ltF).trans (Lib.cell_of_heap hqF 0), (hy.cell (p := ⟨w3.heap.size, 1, none⟩) ltF).trans (Lib.cell_of_heap hqF 1), (hy.cell (p := ⟨w3.heap.size, 2, none⟩) ltF).trans (Lib.cell_of_heap hqF 2), (hy.cell (p := ⟨w4.heap.size, 0, none⟩) ltG).trans (Lib.cell_of_heap hqG 0), (hy.cell (p := ⟨w4.heap.size, 1, none⟩) ltG).trans (Lib.cell_of_heap hqG 1), (hy.cell (p := ⟨w4.heap.size, 2, none⟩) ltG).trans (Lib.cell_of_heap hqG 2), (hy.cell (p := ⟨w5.heap.size, 0, none⟩) ltX).trans (Lib.cell_of_heap hqX 0), (hy.cell (p := ⟨w5.heap.size, 1, none⟩) ltX).trans (Lib.cell_of_heap hqX 1), (hy.cell (p := ⟨w5.heap.size, 2, none⟩) ltX).trans (Lib.cell_of_heap hqX 2), (hy.cell (p := ⟨w5.heap.size, 3, none⟩) ltX).trans (Lib.cell_of_heap hqX 3), (hy.cell (p := ⟨w5.heap.size, 4, none⟩) ltX).trans (Lib.cell_of_heap hqX 4), (hy.cell (p := ⟨w5.heap.size, 5, none⟩) ltX).trans (Lib.cell_of_heap hqX 5), (hy.cell (p := ⟨w5.heap.size, 6, none⟩) ltX).trans (Lib.cell_of_heap hqX 6), (hy.cell (p := ⟨w5.heap.size, 7, none⟩) ltX).trans (Lib.cell_of_heap hqX 7), (hy.cell (p := ⟨w5.heap.size + 1, 0, none⟩) ltH).trans (Lib.cell_of_heap hqH 0), (hy.cell (p := ⟨w5.heap.size + 1, 1, none⟩) ltH).trans (Lib.cell_of_heap hqH 1), (hy.cell (p := ⟨w5.heap.size + 1, 2, none⟩) ltH).trans (Lib.cell_of_heap hqH 2), (hy.cell (p := ⟨w6.heap.size, 0, none⟩) ltY).trans (Lib.cell_of_heap hqY 0), (hy.cell (p := ⟨w6.heap.size, 1, none⟩) ltY).trans (Lib.cell_of_heap hqY 1), (hy.cell (p := ⟨w6.heap.size, 2, none⟩) ltY).trans (Lib.cell_of_heap hqY 2), (hy.cell (p := ⟨w6.heap.size, 3, none⟩) ltY).trans (Lib.cell_of_heap hqY 3), (hy.cell (p := ⟨w6.heap.size, 4, none⟩) ltY).trans (Lib.cell_of_heap hqY 4), (hy.cell (p := ⟨w6.heap.size, 5, none⟩) ltY).trans (Lib.cell_of_heap hqY 5), (hy.cell (p := ⟨w6.heap.size, 6, none⟩) ltY).trans (Lib.cell_of_heap hqY 6), (hy.cell (p := ⟨w6.heap.size, 7, none⟩) ltY).trans (Lib.cell_of_heap hqY 7), (hy.cell (p := ⟨w6.heap.size + 1, 0, none⟩) ltI).trans (Lib.cell_of_heap hqI 0), (hy.cell (p := ⟨w6.heap.size + 1, 1, none⟩) ltI).trans (Lib.cell_of_heap hqI 1), (hy.cell (p := ⟨w6.heap.size + 1, 2, none⟩) ltI).trans (Lib.cell_of_heap hqI 2)⟩))
  clear hqU ltU HQU hqO ltO HQO hqF ltF HQF hqG ltG HQG hqX ltX HQX hqH ltH HQH hqY ltY HQY hqI ltI HQI T1 T2 TA TB TC TD K1 K2 K3 K4 K5 K6 HSA HSB lt
  have y1 := fault_yes e1 e2 e3
  have y2 := fault_yes f1 f2 f3
  have y3 := upd_yes pk pn pno ppos pby pfr pev pln
  have y4 := upd_eql (⟨k, nm, no, pos, by_, fr, ev, ln⟩ : UpD) (⟨k2, nm2, no2, pos2, by2, fr2, ev2, ln2⟩ : UpD)
  obtain ⟨dq, hdq⟩ : ∃ dq, decide ((⟨k, nm, no, pos, by_, fr, ev, ln⟩ : UpD) = (⟨k2, nm2, no2, pos2, by2, fr2, ev2, ln2⟩ : UpD)) = dq := ⟨_, rfl⟩
  rw [hdq] at y4
  dsimp only at y4
  have HDQ := Lib.hid hdq
  clear hdq
  have hSw : Below w8.heap.size w8 w8 := Below.refl _ _
  refine wp_region_kinds (fun wy => Below w8.heap.size w8 wy) [2, 30, 32, 38] [] [4, 5, 9, 10, 14, 15, 29, 31, 36, 37, 39, 40] [0, 1, 3, 6, 7, 8, 11, 12, 13, 16, 17, 18, 19, 20, 21, 22, 23, 24, 25, 26, 27, 28, 33, 34, 35, 41, 42, 43, 44] [0, 1, 2, 3, 4, 5, 6, 7, 8, 9, 10, 11, 12, 13, 14, 15, 16, 17, 18, 19, 20, 21, 22, 23, 24, 25, 26, 27, 28, 29, 31, 30, 32, 33, 34, 35, 36, 37, 39, 40, 41, 38, 42, 43, 44] (by kernel_rfl) (by kernel_rfl) (fun w n h => below_drewN h n) ?_
  repeat (first | (refine wpKind_free (v := ?_) (by rfl) rfl (by rfl) ?_ ?_; rotate_left 1; (focus (intro wy; go_simp; try with_reducible rfl; done)); try simp only [Act.put, List.setIfInBounds_toArray, List.set_cons_zero, List.set_cons_succ]) | (refine wpKind_held (v := ?_) (by rfl) rfl (by rfl) hSw ?_ ?_; rotate_left 1; (focus (intro wy hSy; obtain ⟨uc0, uc1, uc2, uc3, uc4, uc5, uc6, uc7, oc0, oc1, oc2, oc3, oc4, oc5, oc6, oc7, fc0, fc1, fc2, gc0, gc1, gc2, xc0, xc1, xc2, xc3, xc4, xc5, xc6, xc7, hc0, hc1, hc2, yc0, yc1, yc2, yc3, yc4, yc5, yc6, yc7, ic0, ic1, ic2⟩ := HC.out wy hSy; go_simp; try with_reducible rfl; done)); try simp only [Act.put, List.setIfInBounds_toArray, List.set_cons_zero, List.set_cons_succ]))
  refine wpKind_keeps (by rfl) rfl (fun n1 => ?_)
  go_wp2_with fail
  have hsm := sameUpd_any (.slice Av us.length cv) (.slice Bv us.length cw) us us (w8.drewN n1) (HSA8.out.below_ (below_drewN (Below.refl _ _) n1)) (HSB8.out.below_ (below_drewN (Below.refl _ _) n1)) HUS.out
  rw [decide_eq_true rfl] at hsm
  refine hsm.mono ?_
  clear hsm
  rintro e w9 ⟨rfl, hq⟩
  have hSw9 : Below w8.heap.size w8 w9 := by
    obtain ⟨m1, rfl⟩ := hq
    exact below_drewN (below_drewN (Below.refl _ _) n1) m1
  clear hSw hq
  go_wp2_with fail
  show _ ∧ _
  refine ⟨hSw9, ?_⟩
  have hSw := hSw9
  clear hSw9
  repeat (first | (refine wpKind_free (v := ?_) (by rfl) rfl (by rfl) ?_ ?_; rotate_left 1; (focus (intro wy; go_simp; try with_reducible rfl; done)); try simp only [Act.put, List.setIfInBounds_toArray, List.set_cons_zero, List.set_cons_succ]) | (refine wpKind_held (v := ?_) (by rfl) rfl (by rfl) hSw ?_ ?_; rotate_left 1; (focus (intro wy hSy; obtain ⟨uc0, uc1, uc2, uc3, uc4, uc5, uc6, uc7, oc0, oc1, oc2, oc3, oc4, oc5, oc6, oc7, fc0, fc1, fc2, gc0, gc1, gc2, xc0, xc1, xc2, xc3, xc4, xc5, xc6, xc7, hc0, hc1, hc2, yc0, yc1, yc2, yc3, yc4, yc5, yc6, yc7, ic0, ic1, ic2⟩ := HC.out wy hSy; go_simp; try with_reducible rfl; done)); try simp only [Act.put, List.setIfInBounds_toArray, List.set_cons_zero, List.set_cons_succ]))
  refine wpKind_keeps (by rfl) rfl (fun n2 => ?_)
  go_wp2_with fail
  have hsm := ucheck_any k nm no pos by_ fr ev ln (w9.drewN n2) hn (HT.out.below (HB8.out.trans ((below_drewN hSw n2).mono HB8.out.size)))
  rw [HCC.out] at hsm
  refine hsm.mono ?_
  clear hsm
  rintro e w10 ⟨rfl, hb⟩
  have hSw10 : Below w8.heap.size w8 w10 := (below_drewN hSw n2).trans (hb.mono (by exact hSw.size))
  clear hb hSw
  go_wp2_with fail
  show _ ∧ _
  refine ⟨hSw10, ?_⟩
  have hSw := hSw10
  clear hSw10
  repeat (first | (refine wpKind_free (v := ?_) (by rfl) rfl (by rfl) ?_ ?_; rotate_left 1; (focus (intro wy; go_simp; try with_reducible rfl; done)); try simp only [Act.put, List.setIfInBounds_toArray, List.set_cons_zero, List.set_cons_succ]) | (refine wpKind_held (v := ?_) (by rfl) rfl (by rfl) hSw ?_ ?_; rotate_left 1; (focus (intro wy hSy; obtain ⟨uc0, uc1, uc2, uc3, uc4, uc5, uc6, uc7, oc0, oc1, oc2, oc3, oc4, oc5, oc6, oc7, fc0, fc1, fc2, gc0, gc1, gc2, xc0, xc1, xc2, xc3, xc4, xc5, xc6, xc7, hc0, hc1, hc2, yc0, yc1, yc2, yc3, yc4, yc5, yc6, yc7, ic0, ic1, ic2⟩ := HC.out wy hSy; go_simp; try with_reducible rfl; done)); try simp only [Act.put, List.setIfInBounds_toArray, List.set_cons_zero, List.set_cons_succ]))
  refine wpKind_keeps (by rfl) rfl (fun n3 => ?_)
  go_wp2_with fail
  have hsm := ycheck_any k nm no pos by_ fr ev ln (w10.drewN n3) hn
  rw [HCC.out] at hsm
  refine hsm.mono ?_
  clear hsm
  rintro e w11 ⟨rfl, hb⟩
  have hSw11 : Below w8.heap.size w8 w11 := (below_drewN hSw n3).trans (hb.mono (by exact hSw.size))
  clear hb hSw
  go_wp2_with fail
  show _ ∧ _
  refine ⟨hSw11, ?_⟩
  have hSw := hSw11
  clear hSw11
  repeat (first | (refine wpKind_free (v := ?_) (by rfl) rfl (by rfl) ?_ ?_; rotate_left 1; (focus (intro wy; go_simp; try with_reducible rfl; done)); try simp only [Act.put, List.setIfInBounds_toArray, List.set_cons_zero, List.set_cons_succ]) | (refine wpKind_held (v := ?_) (by rfl) rfl (by rfl) hSw ?_ ?_; rotate_left 1; (focus (intro wy hSy; obtain ⟨uc0, uc1, uc2, uc3, uc4, uc5, uc6, uc7, oc0, oc1, oc2, oc3, oc4, oc5, oc6, oc7, fc0, fc1, fc2, gc0, gc1, gc2, xc0, xc1, xc2, xc3, xc4, xc5, xc6, xc7, hc0, hc1, hc2, yc0, yc1, yc2, yc3, yc4, yc5, yc6, yc7, ic0, ic1, ic2⟩ := HC.out wy hSy; go_simp; try with_reducible rfl; done)); try simp only [Act.put, List.setIfInBounds_toArray, List.set_cons_zero, List.set_cons_succ]))
  refine wpKind_keeps (by rfl) rfl (fun n4 => ?_)
  go_wp2_with fail
  have hsm := chsame_any (⟨k, nm, no, pos, by_, fr, ev, ln⟩ : UpD) (⟨k2, nm2, no2, pos2, by2, fr2, ev2, ln2⟩ : UpD) (w11.drewN n4)
  rw [HDQ.out] at hsm
  dsimp only at hsm
  refine hsm.mono ?_
  clear hsm
  rintro e w12 ⟨rfl, hb⟩
  have hSw12 : Below w8.heap.size w8 w12 := (below_drewN hSw n4).trans (hb.mono (by exact hSw.size))
  clear hb hSw
  go_wp2_with fail
  show _ ∧ _
  refine ⟨hSw12, ?_⟩
  have hSw := hSw12
  clear hSw12
  repeat (first | (refine wpKind_free (v := ?_) (by rfl) rfl (by rfl) ?_ ?_; rotate_left 1; (focus (intro wy; go_simp; try with_reducible rfl; done)); try simp only [Act.put, List.setIfInBounds_toArray, List.set_cons_zero, List.set_cons_succ]) | (refine wpKind_held (v := ?_) (by rfl) rfl (by rfl) hSw ?_ ?_; rotate_left 1; (focus (intro wy hSy; obtain ⟨uc0, uc1, uc2, uc3, uc4, uc5, uc6, uc7, oc0, oc1, oc2, oc3, oc4, oc5, oc6, oc7, fc0, fc1, fc2, gc0, gc1, gc2, xc0, xc1, xc2, xc3, xc4, xc5, xc6, xc7, hc0, hc1, hc2, yc0, yc1, yc2, yc3, yc4, yc5, yc6, yc7, ic0, ic1, ic2⟩ := HC.out wy hSy; go_simp; try with_reducible rfl; done)); try simp only [Act.put, List.setIfInBounds_toArray, List.set_cons_zero, List.set_cons_succ]))
  refine wpKind_nil fun n9 => ?_
  go_wp2_with fail
  go_ret
  exact ⟨rfl, HB8.out.trans ((below_drewN hSw n9).mono HB8.out.size)⟩
end Go.Proofs.YtlclkeihkkpdbaaGreatDoor
