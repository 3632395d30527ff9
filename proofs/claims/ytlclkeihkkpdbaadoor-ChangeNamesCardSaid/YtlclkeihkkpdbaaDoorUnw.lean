/- The law ChangeNames: its walk. Printed by wip/bin/genunw.py. -/
import Derived.Test.YtlclkeihkkpdbaaDoorUtz
import Derived.Test.YtlclkeihkkpdbaaDoorUp
namespace Go.Proofs.YtlclkeihkkpdbaaDoor
open Go.RowKit
theorem nmA : (readU ⟨#[100, 111, 111, 114, 32, 100, 32, 102, 114, 111, 109, 32, 49, 32, 101, 118, 101, 114, 121, 32, 57, 32, 111, 112, 101, 110, 32, 50, 10, 104, 97, 122, 97, 114, 100, 32, 104, 32, 102, 114, 111, 109, 32, 48, 32, 101, 118, 101, 114, 121, 32, 48, 32, 99, 108, 111, 115, 101, 100, 32, 53, 10, 114, 101, 115, 116, 111, 114, 101, 32, 116, 32, 48]⟩).us = [⟨4, [100], 0, 0, 0, 1, 9, 2⟩, ⟨5, [104], 0, 0, 0, 0, 0, 5⟩, ⟨3, [116], 0, 0, 0, 0, 0, 0⟩] ∧ (readU ⟨#[100, 111, 111, 114, 32, 100, 32, 102, 114, 111, 109, 32, 49, 32, 101, 118, 101, 114, 121, 32, 57, 32, 111, 112, 101, 110, 32, 50, 10, 104, 97, 122, 97, 114, 100, 32, 104, 32, 102, 114, 111, 109, 32, 48, 32, 101, 118, 101, 114, 121, 32, 48, 32, 99, 108, 111, 115, 101, 100, 32, 53, 10, 114, 101, 115, 116, 111, 114, 101, 32, 116, 32, 48]⟩).err = 0 ∧ (readU ⟨#[100, 111, 111, 114, 32, 100, 32, 102, 114, 111, 109, 32, 49, 32, 101, 118, 101, 114, 121, 32, 57, 32, 111, 112, 101, 110, 32, 50, 10, 104, 97, 122, 97, 114, 100, 32, 104, 32, 102, 114, 111, 109, 32, 48, 32, 101, 118, 101, 114, 121, 32, 48, 32, 99, 108, 111, 115, 101, 100, 32, 53, 10, 114, 101, 115, 116, 111, 114, 101, 32, 116, 32, 48]⟩).line = 0 ∧ (readU ⟨#[100, 111, 111, 114, 32, 100, 32, 102, 114, 111, 109, 32, 49, 32, 101, 118, 101, 114, 121, 32, 57, 32, 111, 112, 101, 110, 32, 50, 10, 104, 97, 122, 97, 114, 100, 32, 104, 32, 102, 114, 111, 109, 32, 48, 32, 101, 118, 101, 114, 121, 32, 48, 32, 99, 108, 111, 115, 101, 100, 32, 53, 10, 114, 101, 115, 116, 111, 114, 101, 32, 116, 32, 48]⟩).col = 0 := by decide +kernel
theorem nmB : parseU ⟨#[]⟩ = (zeroU, 7, 1, 1) := by decide +kernel
theorem nmC : parseU ⟨#[99, 97, 110, 99, 101, 108, 32, 116, 32, 48, 10, 99, 97, 110, 99, 101, 108, 32, 116, 32, 49]⟩ = (zeroU, 7, 2, 1) := by decide +kernel
theorem nmD : (readU ⟨#[100, 101, 108, 97, 121, 32, 116, 32, 49, 32, 102, 114, 111, 109, 32, 50, 32, 98, 121, 32, 53, 32, 54]⟩).us = [] ∧ (readU ⟨#[100, 101, 108, 97, 121, 32, 116, 32, 49, 32, 102, 114, 111, 109, 32, 50, 32, 98, 121, 32, 53, 32, 54]⟩).err = 7 ∧ (readU ⟨#[100, 101, 108, 97, 121, 32, 116, 32, 49, 32, 102, 114, 111, 109, 32, 50, 32, 98, 121, 32, 53, 32, 54]⟩).line = 1 ∧ (readU ⟨#[100, 101, 108, 97, 121, 32, 116, 32, 49, 32, 102, 114, 111, 109, 32, 50, 32, 98, 121, 32, 53, 32, 54]⟩).col = 23 := by decide +kernel
theorem nmE : (readU ⟨#[100, 111, 111, 114, 32, 100, 32, 102, 114, 111, 109, 32, 49, 32, 101, 118, 101, 114, 121, 32, 57, 32, 99, 108, 111, 115, 101, 100, 32, 50]⟩).us = [] ∧ (readU ⟨#[100, 111, 111, 114, 32, 100, 32, 102, 114, 111, 109, 32, 49, 32, 101, 118, 101, 114, 121, 32, 57, 32, 99, 108, 111, 115, 101, 100, 32, 50]⟩).err = 7 ∧ (readU ⟨#[100, 111, 111, 114, 32, 100, 32, 102, 114, 111, 109, 32, 49, 32, 101, 118, 101, 114, 121, 32, 57, 32, 99, 108, 111, 115, 101, 100, 32, 50]⟩).line = 1 ∧ (readU ⟨#[100, 111, 111, 114, 32, 100, 32, 102, 114, 111, 109, 32, 49, 32, 101, 118, 101, 114, 121, 32, 57, 32, 99, 108, 111, 115, 101, 100, 32, 50]⟩).col = 23 := by decide +kernel
theorem nmS : textU ⟨5, [104], 0, 0, 0, 0, 0, 5⟩ = [104, 97, 122, 97, 114, 100, 32, 104, 32, 102, 114, 111, 109, 32, 48, 32, 101, 118, 101, 114, 121, 32, 48, 32, 99, 108, 111, 115, 101, 100, 32, 53] := by decide +kernel
theorem nmS0 : checkU ⟨5, [104], 0, 0, 0, 0, 0, 5⟩ = 0 := by decide +kernel
theorem nmK : checkU ⟨2, [102, 114, 111, 109], 0, 0, 0, 0, 0, 0⟩ = 2 := by decide +kernel
theorem upd_eql (a b : UpD) (W : World) : (Go.binOp BinOp.eql 33 (.agg #[.int .i64 a.kind, .string (ba a.name), .int .i64 a.no, .int .i64 a.pos, .int .i64 a.by_, .int .i64 a.from_, .int .i64 a.every, .int .i64 a.len]) (.agg #[.int .i64 b.kind, .string (ba b.name), .int .i64 b.no, .int .i64 b.pos, .int .i64 b.by_, .int .i64 b.from_, .int .i64 b.every, .int .i64 b.len])).run Tryd.prog W = .ok (.bool (decide (a = b))) W := by
  obtain ⟨a1, a2, a3, a4, a5, a6, a7, a8⟩ := a
  obtain ⟨b1, b2, b3, b4, b5, b6, b7, b8⟩ := b
  rw [show decide (UpD.mk a1 a2 a3 a4 a5 a6 a7 a8 = UpD.mk b1 b2 b3 b4 b5 b6 b7 b8) = ((a1 == b1) && ((a2 == b2) && ((a3 == b3) && ((a4 == b4) && ((a5 == b5) && ((a6 == b6) && ((a7 == b7) && (a8 == b8)))))))) by
    rw [Bool.eq_iff_iff]; simp]
  go_simp
  rw [ba_toList, ba_toList]
  by_cases h1 : a1 = b1 <;> by_cases h2 : a2 = b2 <;> by_cases h3 : a3 = b3 <;> by_cases h4 : a4 = b4 <;> by_cases h5 : a5 = b5 <;> by_cases h6 : a6 = b6 <;> by_cases h7 : a7 = b7 <;> by_cases h8 : a8 = b8 <;> simp [h1, h2, h3, h4, h5, h6, h7, h8]
set_option maxHeartbeats 1000000 in
theorem chsame_any (a b : UpD) (w : World) : Calls Tryd.prog 16 #[.agg #[.int .i64 a.kind, .string (ba a.name), .int .i64 a.no, .int .i64 a.pos, .int .i64 a.by_, .int .i64 a.from_, .int .i64 a.every, .int .i64 a.len], .agg #[.int .i64 b.kind, .string (ba b.name), .int .i64 b.no, .int .i64 b.pos, .int .i64 b.by_, .int .i64 b.from_, .int .i64 b.every, .int .i64 b.len]] w fun e w' => e = .returned (.bool (decide (a = b))) ∧ Below w.heap.size w w' := by
  have hq := upd_eql a b
  go_enter Tryd.func16, Tryd.ntmps16
  go_wp2_with fail
  go_ret
  exact ⟨rfl, ((Below.refl _ _).alloc (Nat.le_refl _) _).alloc (by simp) _⟩
set_option maxHeartbeats 8000000 in
set_option maxRecDepth 100000 in
theorem chnames_any (w : World) (hT : Tabs w) (hL : LibOk w) (hP : Pow w) : Calls Tryd.prog 7 #[] w fun e w' => e = .returned (.bool true) ∧ Below w.heap.size w w' := by
  have HT := Lib.hid hT
  have HL := Lib.hid hL
  have HP := Lib.hid hP
  clear hT hL hP
  go_enter Tryd.func7, Tryd.ntmps7
  go_wp2_with fail
  have hca := chall_any ⟨#[100, 111, 111, 114, 32, 100, 32, 102, 114, 111, 109, 32, 49, 32, 101, 118, 101, 114, 121, 32, 57, 32, 111, 112, 101, 110, 32, 50, 10, 104, 97, 122, 97, 114, 100, 32, 104, 32, 102, 114, 111, 109, 32, 48, 32, 101, 118, 101, 114, 121, 32, 48, 32, 99, 108, 111, 115, 101, 100, 32, 53, 10, 114, 101, 115, 116, 111, 114, 101, 32, 116, 32, 48]⟩ w (by decide) HT.out HL.out
  rw [nmA.1, nmA.2.1, nmA.2.2.1, nmA.2.2.2] at hca
  refine hca.mono ?_
  clear hca
  rintro e w1 ⟨va, rfl, ho1, hb1⟩
  obtain ⟨Av, cv, rfl, _, _⟩ := ho1.shape
  have HS1 := Lib.hid (ho1.sl upc_len |>.mono (P' := fun _ => True) fun _ _ => trivial)
  have HB1 := Lib.hid hb1
  clear ho1 hb1
  go_wp2_with fail
  obtain ⟨wA, hwA⟩ : ∃ wA, w1.alloc (.cells #[.int .i64 0, .int .i64 0, .int .i64 0] 26) = wA := ⟨_, rfl⟩
  have HQA := Lib.hid (show wA.heap[w1.heap.size]? = some (.cells #[.int .i64 0, .int .i64 0, .int .i64 0] 26 (0, 0)) by rw [← hwA]; exact heap_alloc_new _ _)
  have HSA := Lib.hid (show Sl upc 8 wA (.slice Av _ cv) _ (fun _ => True) by rw [← hwA]; exact HS1.out.alloc _)
  have HBA := Lib.hid (show Below w.heap.size w wA by rw [← hwA]; exact HB1.out.alloc HB1.out.size _)
  rw [hwA]
  clear hwA HS1 HB1
  have hca := chparse_any ⟨#[]⟩ wA (by decide) (HT.out.below HBA.out) (HL.out.below HBA.out)
  rw [nmB] at hca
  refine hca.mono ?_
  clear hca
  rintro e w2 ⟨rfl, hb⟩
  dsimp only [upc, zeroU]
  rw [show ba [] = ⟨#[]⟩ from rfl]
  have HC := Lib.hid hb
  clear hb
  go_wp2_with fail
  obtain ⟨wB, hwB⟩ : ∃ wB, (w2.alloc (.cells #[.int .i64 0, .string ⟨#[]⟩, .int .i64 0, .int .i64 0, .int .i64 0, .int .i64 0, .int .i64 0, .int .i64 0] 33)).alloc (.cells #[.int .i64 7, .int .i64 1, .int .i64 1] 26) = wB := ⟨_, rfl⟩
  have HQB := Lib.hid (show wB.heap[w2.heap.size + 1]? = some (.cells #[.int .i64 7, .int .i64 1, .int .i64 1] 26 (0, 0)) by rw [← hwB]; exact alloc2_new _ _ _)
  have KA := Lib.hid (show Below wA.heap.size wA wB by rw [← hwB]; exact (HC.out.alloc HC.out.size _).alloc (by have := HC.out.size; simp; omega) _)
  have HBB := Lib.hid (HBA.out.trans (KA.out.mono HBA.out.size))
  rw [hwB]
  clear hwB HC
  have hca := chparse_any ⟨#[99, 97, 110, 99, 101, 108, 32, 116, 32, 48, 10, 99, 97, 110, 99, 101, 108, 32, 116, 32, 49]⟩ wB (by decide) (HT.out.below HBB.out) (HL.out.below HBB.out)
  rw [nmC] at hca
  refine hca.mono ?_
  clear hca
  rintro e w3 ⟨rfl, hb⟩
  dsimp only [upc, zeroU]
  rw [show ba [] = ⟨#[]⟩ from rfl]
  have HC := Lib.hid hb
  clear hb
  go_wp2_with fail
  obtain ⟨wC, hwC⟩ : ∃ wC, (w3.alloc (.cells #[.int .i64 0, .string ⟨#[]⟩, .int .i64 0, .int .i64 0, .int .i64 0, .int .i64 0, .int .i64 0, .int .i64 0] 33)).alloc (.cells #[.int .i64 7, .int .i64 2, .int .i64 1] 26) = wC := ⟨_, rfl⟩
  have HQC := Lib.hid (show wC.heap[w3.heap.size + 1]? = some (.cells #[.int .i64 7, .int .i64 2, .int .i64 1] 26 (0, 0)) by rw [← hwC]; exact alloc2_new _ _ _)
  have KB := Lib.hid (show Below wB.heap.size wB wC by rw [← hwC]; exact (HC.out.alloc HC.out.size _).alloc (by have := HC.out.size; simp; omega) _)
  have HBC := Lib.hid (HBB.out.trans (KB.out.mono HBB.out.size))
  rw [hwC]
  clear hwC HC
  have hca := chall_any ⟨#[100, 101, 108, 97, 121, 32, 116, 32, 49, 32, 102, 114, 111, 109, 32, 50, 32, 98, 121, 32, 53, 32, 54]⟩ wC (by decide) (HT.out.below HBC.out) (HL.out.below HBC.out)
  rw [nmD.1, nmD.2.1, nmD.2.2.1, nmD.2.2.2] at hca
  refine hca.mono ?_
  clear hca
  rintro e w4 ⟨vx, rfl, _, hb⟩
  have HC := Lib.hid hb
  clear hb
  go_wp2_with fail
  obtain ⟨wD, hwD⟩ : ∃ wD, w4.alloc (.cells #[.int .i64 7, .int .i64 1, .int .i64 23] 26) = wD := ⟨_, rfl⟩
  have HQD := Lib.hid (show wD.heap[w4.heap.size]? = some (.cells #[.int .i64 7, .int .i64 1, .int .i64 23] 26 (0, 0)) by rw [← hwD]; exact heap_alloc_new _ _)
  have KC := Lib.hid (show Below wC.heap.size wC wD by rw [← hwD]; exact HC.out.alloc HC.out.size _)
  have HBD := Lib.hid (HBC.out.trans (KC.out.mono HBC.out.size))
  rw [hwD]
  clear hwD HC
  have hca := chall_any ⟨#[100, 111, 111, 114, 32, 100, 32, 102, 114, 111, 109, 32, 49, 32, 101, 118, 101, 114, 121, 32, 57, 32, 99, 108, 111, 115, 101, 100, 32, 50]⟩ wD (by decide) (HT.out.below HBD.out) (HL.out.below HBD.out)
  rw [nmE.1, nmE.2.1, nmE.2.2.1, nmE.2.2.2] at hca
  refine hca.mono ?_
  clear hca
  rintro e w5 ⟨vx, rfl, _, hb⟩
  have HC := Lib.hid hb
  clear hb
  go_wp2_with fail
  obtain ⟨wE, hwE⟩ : ∃ wE, w5.alloc (.cells #[.int .i64 7, .int .i64 1, .int .i64 23] 26) = wE := ⟨_, rfl⟩
  have HQE := Lib.hid (show wE.heap[w5.heap.size]? = some (.cells #[.int .i64 7, .int .i64 1, .int .i64 23] 26 (0, 0)) by rw [← hwE]; exact heap_alloc_new _ _)
  have KD := Lib.hid (show Below wD.heap.size wD wE by rw [← hwE]; exact HC.out.alloc HC.out.size _)
  have HBE := Lib.hid (HBD.out.trans (KD.out.mono HBD.out.size))
  rw [hwE]
  clear hwE HC
  have htx := utext_any 5 [104] 0 0 0 0 0 5 wE (by decide) (HT.out.below HBE.out) (HP.out.below HBE.out)
  rw [nmS0, if_pos rfl, nmS, show ba [104] = ⟨#[104]⟩ from rfl] at htx
  refine htx.mono ?_
  clear htx
  rintro e w6 ⟨rfl, hb⟩
  have KE6 := Lib.hid hb
  have HB6 := Lib.hid (HBE.out.trans (KE6.out.mono HBE.out.size))
  clear hb
  go_wp2_with fail
  have htx := utext_any 2 [102, 114, 111, 109] 0 0 0 0 0 0 w6 (by decide) (HT.out.below HB6.out) (HP.out.below HB6.out)
  rw [nmK, if_neg (by decide), show ba [102, 114, 111, 109] = ⟨#[102, 114, 111, 109]⟩ from rfl, show ba [] = ⟨#[]⟩ from rfl] at htx
  refine htx.mono ?_
  clear htx
  rintro e w7 ⟨rfl, hb⟩
  have KE7 := Lib.hid (KE6.out.trans (hb.mono KE6.out.size))
  have HB7 := Lib.hid (HBE.out.trans (KE7.out.mono HBE.out.size))
  clear hb KE6 HB6
  go_wp2_with fail
  dsimp only [List.append]
  have TE := KE7.out
  have TD := KD.out.trans (TE.mono KD.out.size)
  have TC := KC.out.trans (TD.mono KC.out.size)
  have TB := KB.out.trans (TC.mono KB.out.size)
  have TA := KA.out.trans (TB.mono KA.out.size)
  have lt : ∀ {W : World} {q : Nat} {o : Obj}, W.heap[q]? = some o → q < W.heap.size := fun h => (Array.getElem?_eq_some_iff.1 h).1
  have hqA := (TA.block _ (lt HQA.out)).trans HQA.out
  have hqB := (TB.block _ (lt HQB.out)).trans HQB.out
  have hqC := (TC.block _ (lt HQC.out)).trans HQC.out
  have hqD := (TD.block _ (lt HQD.out)).trans HQD.out
  have hqE := (TE.block _ (lt HQE.out)).trans HQE.out
  obtain ⟨b, off, cap, ev, hc1, hc2, hb, _, hx⟩ := (HSA.out.below_ TA).form (Nat.succ_pos _)
  have e1 := (Value.slice.inj ev).1
  have e2 := (Value.slice.inj ev).2.2
  subst e1 e2
  clear ev lt
  have ax0 : w7.cell? ⟨w1.heap.size, 0, none⟩ = some (.int .i64 0) := Lib.cell_of_heap hqA 0
  have ax1 : w7.cell? ⟨w1.heap.size, 1, none⟩ = some (.int .i64 0) := Lib.cell_of_heap hqA 1
  have ax2 : w7.cell? ⟨w1.heap.size, 2, none⟩ = some (.int .i64 0) := Lib.cell_of_heap hqA 2
  have bx0 : w7.cell? ⟨w2.heap.size + 1, 0, none⟩ = some (.int .i64 7) := Lib.cell_of_heap hqB 0
  have bx1 : w7.cell? ⟨w2.heap.size + 1, 1, none⟩ = some (.int .i64 1) := Lib.cell_of_heap hqB 1
  have bx2 : w7.cell? ⟨w2.heap.size + 1, 2, none⟩ = some (.int .i64 1) := Lib.cell_of_heap hqB 2
  have cx0 : w7.cell? ⟨w3.heap.size + 1, 0, none⟩ = some (.int .i64 7) := Lib.cell_of_heap hqC 0
  have cx1 : w7.cell? ⟨w3.heap.size + 1, 1, none⟩ = some (.int .i64 2) := Lib.cell_of_heap hqC 1
  have cx2 : w7.cell? ⟨w3.heap.size + 1, 2, none⟩ = some (.int .i64 1) := Lib.cell_of_heap hqC 2
  have dx0 : w7.cell? ⟨w4.heap.size, 0, none⟩ = some (.int .i64 7) := Lib.cell_of_heap hqD 0
  have dx1 : w7.cell? ⟨w4.heap.size, 1, none⟩ = some (.int .i64 1) := Lib.cell_of_heap hqD 1
  have dx2 : w7.cell? ⟨w4.heap.size, 2, none⟩ = some (.int .i64 23) := Lib.cell_of_heap hqD 2
  have ex0 : w7.cell? ⟨w5.heap.size, 0, none⟩ = some (.int .i64 7) := Lib.cell_of_heap hqE 0
  have ex1 : w7.cell? ⟨w5.heap.size, 1, none⟩ = some (.int .i64 1) := Lib.cell_of_heap hqE 1
  have ex2 : w7.cell? ⟨w5.heap.size, 2, none⟩ = some (.int .i64 23) := Lib.cell_of_heap hqE 2
  have u00 : w7.cell? ⟨b, off, none⟩ = some (.int .i64 4) := by simpa [upc] using hx 0 _ rfl 0 _ rfl
  have u01 : w7.cell? ⟨b, off + 1, none⟩ = some (.string (ba [100])) := by simpa [upc] using hx 0 _ rfl 1 _ rfl
  have u02 : w7.cell? ⟨b, off + 2, none⟩ = some (.int .i64 0) := by simpa [upc] using hx 0 _ rfl 2 _ rfl
  have u03 : w7.cell? ⟨b, off + 3, none⟩ = some (.int .i64 0) := by simpa [upc] using hx 0 _ rfl 3 _ rfl
  have u04 : w7.cell? ⟨b, off + 4, none⟩ = some (.int .i64 0) := by simpa [upc] using hx 0 _ rfl 4 _ rfl
  have u05 : w7.cell? ⟨b, off + 5, none⟩ = some (.int .i64 1) := by simpa [upc] using hx 0 _ rfl 5 _ rfl
  have u06 : w7.cell? ⟨b, off + 6, none⟩ = some (.int .i64 9) := by simpa [upc] using hx 0 _ rfl 6 _ rfl
  have u07 : w7.cell? ⟨b, off + 7, none⟩ = some (.int .i64 2) := by simpa [upc] using hx 0 _ rfl 7 _ rfl
  have u10 : w7.cell? ⟨b, off + 8, none⟩ = some (.int .i64 5) := by simpa [upc] using hx 1 _ rfl 0 _ rfl
  have u11 : w7.cell? ⟨b, off + 9, none⟩ = some (.string (ba [104])) := by simpa [upc] using hx 1 _ rfl 1 _ rfl
  have u12 : w7.cell? ⟨b, off + 10, none⟩ = some (.int .i64 0) := by simpa [upc] using hx 1 _ rfl 2 _ rfl
  have u13 : w7.cell? ⟨b, off + 11, none⟩ = some (.int .i64 0) := by simpa [upc] using hx 1 _ rfl 3 _ rfl
  have u14 : w7.cell? ⟨b, off + 12, none⟩ = some (.int .i64 0) := by simpa [upc] using hx 1 _ rfl 4 _ rfl
  have u15 : w7.cell? ⟨b, off + 13, none⟩ = some (.int .i64 0) := by simpa [upc] using hx 1 _ rfl 5 _ rfl
  have u16 : w7.cell? ⟨b, off + 14, none⟩ = some (.int .i64 0) := by simpa [upc] using hx 1 _ rfl 6 _ rfl
  have u17 : w7.cell? ⟨b, off + 15, none⟩ = some (.int .i64 5) := by simpa [upc] using hx 1 _ rfl 7 _ rfl
  have u20 : w7.cell? ⟨b, off + 16, none⟩ = some (.int .i64 3) := by simpa [upc] using hx 2 _ rfl 0 _ rfl
  have u21 : w7.cell? ⟨b, off + 17, none⟩ = some (.string (ba [116])) := by simpa [upc] using hx 2 _ rfl 1 _ rfl
  have u22 : w7.cell? ⟨b, off + 18, none⟩ = some (.int .i64 0) := by simpa [upc] using hx 2 _ rfl 2 _ rfl
  have u23 : w7.cell? ⟨b, off + 19, none⟩ = some (.int .i64 0) := by simpa [upc] using hx 2 _ rfl 3 _ rfl
  have u24 : w7.cell? ⟨b, off + 20, none⟩ = some (.int .i64 0) := by simpa [upc] using hx 2 _ rfl 4 _ rfl
  have u25 : w7.cell? ⟨b, off + 21, none⟩ = some (.int .i64 0) := by simpa [upc] using hx 2 _ rfl 5 _ rfl
  have u26 : w7.cell? ⟨b, off + 22, none⟩ = some (.int .i64 0) := by simpa [upc] using hx 2 _ rfl 6 _ rfl
  have u27 : w7.cell? ⟨b, off + 23, none⟩ = some (.int .i64 0) := by simpa [upc] using hx 2 _ rfl 7 _ rfl
  have lA := (Array.getElem?_eq_some_iff.1 hqA).1
  have lB := (Array.getElem?_eq_some_iff.1 hqB).1
  have lC := (Array.getElem?_eq_some_iff.1 hqC).1
  have lD := (Array.getElem?_eq_some_iff.1 hqD).1
  have lE := (Array.getElem?_eq_some_iff.1 hqE).1
  have HC := Lib.hid (fun (wy : World) (hy : Below w7.heap.size w7 wy) => (show wy.cell? ⟨w1.heap.size, 0, none⟩ = some (.int .i64 0) ∧ wy.cell? ⟨w1.heap.size, 1, none⟩ = some (.int .i64 0) ∧ wy.cell? ⟨w1.heap.size, 2, none⟩ = some (.int .i64 0) ∧ wy.cell? ⟨w2.heap.size + 1, 0, none⟩ = some (.int .i64 7) ∧ wy.cell? ⟨w2.heap.size + 1, 1, none⟩ = some (.int .i64 1) ∧ wy.cell? ⟨w2.heap.size + 1, 2, none⟩ = some (.int .i64 1) ∧ wy.cell? ⟨w3.heap.size + 1, 0, none⟩ = some (.int .i64 7) ∧ wy.cell? ⟨w3.heap.size + 1, 1, none⟩ = some (.int .i64 2) ∧ wy.cell? ⟨w3.heap.size + 1, 2, none⟩ = some (.int .i64 1) ∧ wy.cell? ⟨w4.heap.size, 0, none⟩ = some (.int .i64 7) ∧ wy.cell? ⟨w4.heap.size, 1, none⟩ = some (.int .i64 1) ∧ wy.cell? ⟨w4.heap.size, 2, none⟩ = some (.int .i64 23) ∧ wy.cell? ⟨w5.heap.size, 0, none⟩ = some (.int .i64 7) ∧ wy.cell? ⟨w5.heap.size, 1, none⟩ = some (.int .i64 1) ∧ wy.cell? ⟨w5.heap.size, 2, none⟩ = some (.int .i64 23) ∧ wy.cell? ⟨b, off, none⟩ = some (.int .i64 4) ∧ wy.cell? ⟨b, off + 1, none⟩ = some (.string (ba [100])) ∧ wy.cell? ⟨b, off + 2, none⟩ = some (.int .i64 0) ∧ wy.cell? ⟨b, off + 3, none⟩ = some (.int .i64 0) ∧ wy.cell? ⟨b, off + 4, none⟩ = some (.int .i64 0) ∧ wy.cell? ⟨b, off + 5, none⟩ = some (.int .i64 1) ∧ wy.cell? ⟨b, off + 6, none⟩ = some (.int .i64 9) ∧ wy.cell? ⟨b, off + 7, none⟩ = some (.int .i64 2) ∧ wy.cell? ⟨b, off + 8, none⟩ = some (.int .i64 5) ∧ wy.cell? ⟨b, off + 9, none⟩ = some (.string (ba [104])) ∧ wy.cell? ⟨b, off + 10, none⟩ = some (.int .i64 0) ∧ wy.cell? ⟨b, off + 11, none⟩ = some (.int .i64 0) ∧ wy.cell? ⟨b, off + 12, none⟩ = some (.int .i64 0) ∧ wy.cell? ⟨b, off + 13, none⟩ = some (.int .i64 0) ∧ wy.cell? ⟨b, off + 14, none⟩ = some (.int .i64 0) ∧ wy.cell? ⟨b, off + 15, none⟩ = some (.int .i64 5) ∧ wy.cell? ⟨b, off + 16, none⟩ = some (.int .i64 3) ∧ wy.cell? ⟨b, off + 17, none⟩ = some (.string (ba [116])) ∧ wy.cell? ⟨b, off + 18, none⟩ = some (.int .i64 0) ∧ wy.cell? ⟨b, off + 19, none⟩ = some (.int .i64 0) ∧ wy.cell? ⟨b, off + 20, none⟩ = some (.int .i64 0) ∧ wy.cell? ⟨b, off + 21, none⟩ = some (.int .i64 0) ∧ wy.cell? ⟨b, off + 22, none⟩ = some (.int .i64 0) ∧ wy.cell? ⟨b, off + 23, none⟩ = some (.int .i64 0) from ⟨(hy.cell (p := ⟨w1.heap.size, 0, none⟩) lA).trans ax0, (hy.cell (p := ⟨w1.heap.size, 1, none⟩) lA).trans ax1, (hy.cell (p := ⟨w1.heap.size, 2, none⟩) lA).trans ax2, (hy.cell (p := ⟨w2.heap.size + 1, 0, none⟩) lB).trans bx0, (hy.cell (p := ⟨w2.heap.size + 1, 1, none⟩) lB).trans bx1, (hy.cell (p := ⟨w2.heap.size + 1, 2, none⟩) lB).trans bx2, (hy.cell (p := ⟨w3.heap.size + 1, 0, none⟩) lC).trans cx0, (hy.cell (p := ⟨w3.heap.size + 1, 1, none⟩) lC).trans cx1, (hy.cell (p := ⟨w3.heap.size + 1, 2, none⟩) lC).trans cx2, (hy.cell (p := ⟨w4.heap.size, 0, none⟩) lD).trans dx0, (hy.cell (p := ⟨w4.heap.size, 1, none⟩) lD).trans dx1, (hy.cell (p := ⟨w4.heap.size, 2, none⟩) lD).trans dx2, (hy.cell (p := ⟨w5.heap.size, 0, none⟩) lE).trans ex0, (hy.cell (p := ⟨w5.heap.size, 1, none⟩) lE).trans ex1, (hy.cell (p := ⟨w5.heap.size, 2, none⟩) lE).trans ex2, (hy.cell (p := ⟨b, off, none⟩) hb).trans u00, (hy.cell (p := ⟨b, off + 1, none⟩) hb).trans u01, (hy.cell (p := ⟨b, off + 2, none⟩) hb).trans u02, (hy.cell (p := ⟨b, off + 3, none⟩) hb).trans u03, (hy.cell (p := ⟨b, off + 4, none⟩) hb).trans u04, (hy.cell (p := ⟨b, off + 5, none⟩) hb).trans u05, (hy.cell (p := ⟨b, off + 6, none⟩) hb).trans u06, (hy.cell (p := ⟨b, off + 7, none⟩) hb).trans u07, (hy.cell (p := ⟨b, off + 8, none⟩) hb).trans u10, (hy.cell (p := ⟨b, off + 9, none⟩) hb).trans u11, (hy.cell (p := ⟨b, off + 10, none⟩) hb).trans u12, (hy.cell (p := ⟨b, off + 11, none⟩) hb).trans u13, (hy.cell (p := ⟨b, off + 12, none⟩) hb).trans u14, (hy.cell (p := ⟨b, off + 13, none⟩) hb).trans u15, (hy.cell (p := ⟨b, off + 14, none⟩) hb).trans u16, (hy.cell (p := ⟨b, off + 15, none⟩) hb).trans u17, (hy.cell (p := ⟨b, off + 16, none⟩) hb).trans u20, (hy.cell (p := ⟨b, off + 17, none⟩) hb).trans u21, (hy.cell (p := ⟨b, off + 18, none⟩) hb).trans u22, (hy.cell (p := ⟨b, off + 19, none⟩) hb).trans u23, (hy.cell (p := ⟨b, off + 20, none⟩) hb).trans u24, (hy.cell (p := ⟨b, off + 21, none⟩) hb).trans u25, (hy.cell (p := ⟨b, off + 22, none⟩) hb).trans u26, (hy.cell (p := ⟨b, off + 23, none⟩) hb).trans u27⟩))
  clear hx hqA hqB hqC hqD hqE TA TB TC TD TE HQA HQB HQC HQD HQE KA KB KC KD KE7 HSA HBA HBB HBC HBD HBE lA lB lC lD lE hb ax0 ax1 ax2 bx0 bx1 bx2 cx0 cx1 cx2 dx0 dx1 dx2 ex0 ex1 ex2 u00 u01 u02 u03 u04 u05 u06 u07 u10 u11 u12 u13 u14 u15 u16 u17 u20 u21 u22 u23 u24 u25 u26 u27
  have hqs : ((ba [104, 97, 122, 97, 114, 100, 32, 104, 32, 102, 114, 111, 109, 32, 48, 32, 101, 118, 101, 114, 121, 32, 48, 32, 99, 108, 111, 115, 101, 100, 32, 53]).toList == [104, 97, 122, 97, 114, 100, 32, 104, 32, 102, 114, 111, 109, 32, 48, 32, 101, 118, 101, 114, 121, 32, 48, 32, 99, 108, 111, 115, 101, 100, 32, 53]) = true := by rw [ba_toList]; decide
  have hSw : Below w7.heap.size w7 w7 := Below.refl _ _
  refine wp_region_kinds (fun wy => Below w7.heap.size w7 wy) [0, 72, 81] [] [2, 15, 23, 30, 34, 39, 45, 50, 68, 71, 77, 80] [1, 3, 4, 5, 6, 7, 8, 9, 10, 11, 12, 13, 14, 16, 17, 18, 19, 20, 21, 22, 24, 25, 26, 27, 28, 29, 31, 32, 33, 35, 36, 37, 38, 40, 41, 42, 43, 44, 46, 47, 48, 49, 51, 52, 53, 54, 55, 56, 57, 58, 59, 60, 61, 62, 63, 64, 65, 66, 67, 69, 70, 73, 74, 75, 76, 78, 79, 82, 83, 84] [0, 1, 2, 3, 4, 5, 6, 7, 8, 9, 10, 11, 12, 13, 14, 15, 16, 17, 18, 19, 20, 21, 22, 23, 24, 25, 26, 27, 28, 29, 30, 31, 32, 33, 34, 35, 36, 37, 38, 39, 40, 41, 42, 43, 44, 45, 46, 47, 48, 49, 50, 51, 52, 53, 54, 55, 56, 57, 58, 59, 60, 61, 62, 63, 64, 65, 66, 67, 68, 69, 70, 71, 72, 73, 74, 75, 76, 77, 78, 79, 80, 81, 82, 83, 84] (by kernel_rfl) (by kernel_rfl) (fun w n h => below_drewN h n) ?_
  refine wpKind_keeps (by rfl) rfl (fun n1 => ?_)
  go_wp2_with fail
  refine (chlives_any _ (HT.out.below (below_drewN HB7.out n1)) (HL.out.below (below_drewN HB7.out n1))).mono ?_
  rintro e w8 ⟨rfl, hb⟩
  have hSw8 : Below w7.heap.size w7 w8 := (below_drewN (Below.refl _ _) n1).trans hb
  clear hb hSw
  go_wp2_with fail
  show _ ∧ _
  refine ⟨hSw8, ?_⟩
  have hSw := hSw8
  clear hSw8
  repeat (first | (refine wpKind_free (v := ?_) (by rfl) rfl (by rfl) ?_ ?_; rotate_left 1; (focus (intro wy; go_simp; try with_reducible rfl; done)); try simp only [Act.put, List.setIfInBounds_toArray, List.set_cons_zero, List.set_cons_succ]) | (refine wpKind_held (v := ?_) (by rfl) rfl (by rfl) hSw ?_ ?_; rotate_left 1; (focus (intro wy hSy; obtain ⟨ax0, ax1, ax2, bx0, bx1, bx2, cx0, cx1, cx2, dx0, dx1, dx2, ex0, ex1, ex2, u00, u01, u02, u03, u04, u05, u06, u07, u10, u11, u12, u13, u14, u15, u16, u17, u20, u21, u22, u23, u24, u25, u26, u27⟩ := HC.out wy hSy; go_simp; try with_reducible rfl; done)); try simp only [Act.put, List.setIfInBounds_toArray, List.set_cons_zero, List.set_cons_succ]))
  refine wpKind_keeps (by rfl) rfl (fun n2 => ?_)
  go_wp2_with fail
  have hsm := chsame_any ⟨4, [100], 0, 0, 0, 1, 9, 2⟩ ⟨4, [100], 0, 0, 0, 1, 9, 2⟩ (w8.drewN n2)
  rw [decide_eq_true rfl] at hsm
  refine hsm.mono ?_
  clear hsm
  rintro e w9 ⟨rfl, hb⟩
  have hSw9 : Below w7.heap.size w7 w9 := (below_drewN hSw n2).trans (hb.mono (by exact hSw.size))
  clear hb hSw
  go_wp2_with fail
  show _ ∧ _
  refine ⟨hSw9, ?_⟩
  have hSw := hSw9
  clear hSw9
  repeat (first | (refine wpKind_free (v := ?_) (by rfl) rfl (by rfl) ?_ ?_; rotate_left 1; (focus (intro wy; go_simp; try with_reducible rfl; done)); try simp only [Act.put, List.setIfInBounds_toArray, List.set_cons_zero, List.set_cons_succ]) | (refine wpKind_held (v := ?_) (by rfl) rfl (by rfl) hSw ?_ ?_; rotate_left 1; (focus (intro wy hSy; obtain ⟨ax0, ax1, ax2, bx0, bx1, bx2, cx0, cx1, cx2, dx0, dx1, dx2, ex0, ex1, ex2, u00, u01, u02, u03, u04, u05, u06, u07, u10, u11, u12, u13, u14, u15, u16, u17, u20, u21, u22, u23, u24, u25, u26, u27⟩ := HC.out wy hSy; go_simp; try with_reducible rfl; done)); try simp only [Act.put, List.setIfInBounds_toArray, List.set_cons_zero, List.set_cons_succ]))
  refine wpKind_keeps (by rfl) rfl (fun n3 => ?_)
  go_wp2_with fail
  have hsm := chsame_any ⟨4, [100], 0, 0, 0, 1, 9, 2⟩ ⟨5, [104], 0, 0, 0, 0, 0, 5⟩ (w9.drewN n3)
  rw [decide_eq_false (by decide)] at hsm
  refine hsm.mono ?_
  clear hsm
  rintro e w10 ⟨rfl, hb⟩
  have hSw10 : Below w7.heap.size w7 w10 := (below_drewN hSw n3).trans (hb.mono (by exact hSw.size))
  clear hb hSw
  go_wp2_with fail
  show _ ∧ _
  refine ⟨hSw10, ?_⟩
  have hSw := hSw10
  clear hSw10
  repeat (first | (refine wpKind_free (v := ?_) (by rfl) rfl (by rfl) ?_ ?_; rotate_left 1; (focus (intro wy; go_simp; try with_reducible rfl; done)); try simp only [Act.put, List.setIfInBounds_toArray, List.set_cons_zero, List.set_cons_succ]) | (refine wpKind_held (v := ?_) (by rfl) rfl (by rfl) hSw ?_ ?_; rotate_left 1; (focus (intro wy hSy; obtain ⟨ax0, ax1, ax2, bx0, bx1, bx2, cx0, cx1, cx2, dx0, dx1, dx2, ex0, ex1, ex2, u00, u01, u02, u03, u04, u05, u06, u07, u10, u11, u12, u13, u14, u15, u16, u17, u20, u21, u22, u23, u24, u25, u26, u27⟩ := HC.out wy hSy; go_simp; try with_reducible rfl; done)); try simp only [Act.put, List.setIfInBounds_toArray, List.set_cons_zero, List.set_cons_succ]))
  refine wpKind_nil fun n9 => ?_
  go_wp2_with fail
  go_ret
  exact ⟨rfl, HB7.out.trans ((below_drewN hSw n9).mono HB7.out.size)⟩
end Go.Proofs.YtlclkeihkkpdbaaDoor
