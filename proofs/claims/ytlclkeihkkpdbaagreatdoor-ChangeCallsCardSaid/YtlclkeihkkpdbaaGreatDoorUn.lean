/- The chapter's examples: lives. -/
import Derived.Test.YtlclkeihkkpdbaaGreatDoorUm
namespace Go.Proofs.YtlclkeihkkpdbaaGreatDoor
open Go.RowKit
theorem par_A : parseU ⟨#[100, 101, 108, 97, 121, 32, 116, 49, 32, 51, 32, 102, 114, 111, 109, 32, 50, 32, 98, 121, 32, 53]⟩ = (⟨1, [116, 49], 3, 2, 5, 0, 0, 0⟩, 0, 0, 0) := by decide +kernel
theorem par_B : parseU ⟨#[99, 97, 110, 99, 101, 108, 32, 116, 49]⟩ = (zeroU, 7, 1, 10) := by decide +kernel
theorem par_C : parseU ⟨#[100, 101, 108, 97, 121, 32, 116, 49, 32, 51, 32, 102, 114, 111, 109, 32, 50, 32, 98, 121, 32, 48]⟩ = (zeroU, 7, 1, 22) := by decide +kernel
set_option maxHeartbeats 4000000 in
set_option maxRecDepth 100000 in
theorem chlives_any (w : World) (hT : Tabs w) (hL : LibOk w) : Calls Tryz.prog 4 #[] w fun e w' => e = .returned (.bool true) ∧ Below w.heap.size w w' := by
  have HT := Lib.hid hT
  have HL := Lib.hid hL
  clear hT hL
  go_enter Tryz.func4, Tryz.ntmps4
  go_wp2_with fail
  refine (chparse_any _ w (by decide) HT.out HL.out).mono ?_
  rintro e w1 ⟨rfl, hb1⟩
  rw [par_A]
  dsimp only [upc]
  have HB1 := Lib.hid hb1
  clear hb1
  rw [show ba [116, 49] = ⟨#[116, 49]⟩ from rfl]
  go_wp2_with fail
  obtain ⟨wA, hwA⟩ : ∃ wA, (w1.alloc (.cells #[.int .i64 1, .string ⟨#[116, 49]⟩, .int .i64 3, .int .i64 2, .int .i64 5, .int .i64 0, .int .i64 0, .int .i64 0] 25)).alloc (.cells #[.int .i64 0, .int .i64 0, .int .i64 0] 30) = wA := ⟨_, rfl⟩
  have HUA := Lib.hid (show wA.heap[w1.heap.size]? = some (.cells #[.int .i64 1, .string ⟨#[116, 49]⟩, .int .i64 3, .int .i64 2, .int .i64 5, .int .i64 0, .int .i64 0, .int .i64 0] 25 (0, 0)) by rw [← hwA, Below.heap_alloc _ _ _ (by simp)]; exact heap_alloc_new _ _)
  have HFA := Lib.hid (show wA.heap[w1.heap.size + 1]? = some (.cells #[.int .i64 0, .int .i64 0, .int .i64 0] 30 (0, 0)) by rw [← hwA]; exact alloc2_new _ _ _)
  have HBA := Lib.hid (show Below w.heap.size w wA by rw [← hwA]; exact (HB1.out.alloc HB1.out.size _).alloc (by have := HB1.out.size; simp; omega) _)
  have hzA : wA.heap.size = w1.heap.size + 2 := by rw [← hwA]; simp
  rw [hwA]
  clear hwA HB1
  refine (chparse_any _ wA (by decide) (HT.out.below HBA.out) (HL.out.below HBA.out)).mono ?_
  rintro e w2 ⟨rfl, hb2⟩
  rw [par_B]
  dsimp only [upc, zeroU]
  rw [show ba [] = ⟨#[]⟩ from rfl]
  have HU2 := Lib.hid ((hb2.block _ (by omega)).trans HUA.out)
  have HF2 := Lib.hid ((hb2.block _ (by omega)).trans HFA.out)
  have HB2 := Lib.hid (HBA.out.trans (hb2.mono HBA.out.size))
  have hz2 : w1.heap.size + 2 ≤ w2.heap.size := by have := hb2.size; omega
  clear hb2 HUA HFA HBA hzA
  go_wp2_with fail
  obtain ⟨wC, hwC⟩ : ∃ wC, (w2.alloc (.cells #[.int .i64 0, .string ⟨#[]⟩, .int .i64 0, .int .i64 0, .int .i64 0, .int .i64 0, .int .i64 0, .int .i64 0] 25)).alloc (.cells #[.int .i64 7, .int .i64 1, .int .i64 10] 30) = wC := ⟨_, rfl⟩
  have HUC := Lib.hid (show wC.heap[w1.heap.size]? = some (.cells #[.int .i64 1, .string ⟨#[116, 49]⟩, .int .i64 3, .int .i64 2, .int .i64 5, .int .i64 0, .int .i64 0, .int .i64 0] 25 (0, 0)) by rw [← hwC, Below.heap_alloc _ _ _ (by simp; omega), Below.heap_alloc _ _ _ (by omega)]; exact HU2.out)
  have HFC := Lib.hid (show wC.heap[w1.heap.size + 1]? = some (.cells #[.int .i64 0, .int .i64 0, .int .i64 0] 30 (0, 0)) by rw [← hwC, Below.heap_alloc _ _ _ (by simp; omega), Below.heap_alloc _ _ _ (by omega)]; exact HF2.out)
  have HGC := Lib.hid (show wC.heap[w2.heap.size + 1]? = some (.cells #[.int .i64 7, .int .i64 1, .int .i64 10] 30 (0, 0)) by rw [← hwC]; exact alloc2_new _ _ _)
  have HBC := Lib.hid (show Below w.heap.size w wC by rw [← hwC]; exact (HB2.out.alloc HB2.out.size _).alloc (by have := HB2.out.size; simp; omega) _)
  have hzC : wC.heap.size = w2.heap.size + 2 := by rw [← hwC]; simp
  rw [hwC]
  clear hwC HU2 HF2 HB2
  refine (chparse_any _ wC (by decide) (HT.out.below HBC.out) (HL.out.below HBC.out)).mono ?_
  rintro e w3 ⟨rfl, hb3⟩
  rw [par_C]
  dsimp only [upc, zeroU]
  rw [show ba [] = ⟨#[]⟩ from rfl]
  have HU3 := Lib.hid ((hb3.block _ (by omega)).trans HUC.out)
  have HF3 := Lib.hid ((hb3.block _ (by omega)).trans HFC.out)
  have HG3 := Lib.hid ((hb3.block _ (by omega)).trans HGC.out)
  have HB3 := Lib.hid (HBC.out.trans (hb3.mono HBC.out.size))
  have hz3 : w2.heap.size + 2 ≤ w3.heap.size := by have := hb3.size; omega
  clear hb3 HUC HFC HGC HBC hzC
  go_upto_region 4 with fail
  obtain ⟨wD, hwD⟩ : ∃ wD, (w3.alloc (.cells #[.int .i64 0, .string ⟨#[]⟩, .int .i64 0, .int .i64 0, .int .i64 0, .int .i64 0, .int .i64 0, .int .i64 0] 25)).alloc (.cells #[.int .i64 7, .int .i64 1, .int .i64 22] 30) = wD := ⟨_, rfl⟩
  have hu := (show wD.heap[w1.heap.size]? = some (.cells #[.int .i64 1, .string ⟨#[116, 49]⟩, .int .i64 3, .int .i64 2, .int .i64 5, .int .i64 0, .int .i64 0, .int .i64 0] 25 (0, 0)) by rw [← hwD, Below.heap_alloc _ _ _ (by simp; omega), Below.heap_alloc _ _ _ (by omega)]; exact HU3.out)
  have hf := (show wD.heap[w1.heap.size + 1]? = some (.cells #[.int .i64 0, .int .i64 0, .int .i64 0] 30 (0, 0)) by rw [← hwD, Below.heap_alloc _ _ _ (by simp; omega), Below.heap_alloc _ _ _ (by omega)]; exact HF3.out)
  have hg := (show wD.heap[w2.heap.size + 1]? = some (.cells #[.int .i64 7, .int .i64 1, .int .i64 10] 30 (0, 0)) by rw [← hwD, Below.heap_alloc _ _ _ (by simp; omega), Below.heap_alloc _ _ _ (by omega)]; exact HG3.out)
  have hh := (show wD.heap[w3.heap.size + 1]? = some (.cells #[.int .i64 7, .int .i64 1, .int .i64 22] 30 (0, 0)) by rw [← hwD]; exact alloc2_new _ _ _)
  have HBD := Lib.hid (show Below w.heap.size w wD by rw [← hwD]; exact (HB3.out.alloc HB3.out.size _).alloc (by have := HB3.out.size; simp; omega) _)
  rw [hwD]
  clear hwD HU3 HF3 HG3 HB3
  have u0 : wD.cell? ⟨w1.heap.size, 0, none⟩ = some (.int .i64 1) := Lib.cell_of_heap hu 0
  have u1 : wD.cell? ⟨w1.heap.size, 1, none⟩ = some (.string ⟨#[116, 49]⟩) := Lib.cell_of_heap hu 1
  have u2 : wD.cell? ⟨w1.heap.size, 2, none⟩ = some (.int .i64 3) := Lib.cell_of_heap hu 2
  have u3 : wD.cell? ⟨w1.heap.size, 3, none⟩ = some (.int .i64 2) := Lib.cell_of_heap hu 3
  have u4 : wD.cell? ⟨w1.heap.size, 4, none⟩ = some (.int .i64 5) := Lib.cell_of_heap hu 4
  have u5 : wD.cell? ⟨w1.heap.size, 5, none⟩ = some (.int .i64 0) := Lib.cell_of_heap hu 5
  have u6 : wD.cell? ⟨w1.heap.size, 6, none⟩ = some (.int .i64 0) := Lib.cell_of_heap hu 6
  have u7 : wD.cell? ⟨w1.heap.size, 7, none⟩ = some (.int .i64 0) := Lib.cell_of_heap hu 7
  have f0 : wD.cell? ⟨w1.heap.size + 1, 0, none⟩ = some (.int .i64 0) := Lib.cell_of_heap hf 0
  have f1 : wD.cell? ⟨w1.heap.size + 1, 1, none⟩ = some (.int .i64 0) := Lib.cell_of_heap hf 1
  have f2 : wD.cell? ⟨w1.heap.size + 1, 2, none⟩ = some (.int .i64 0) := Lib.cell_of_heap hf 2
  have g0 : wD.cell? ⟨w2.heap.size + 1, 0, none⟩ = some (.int .i64 7) := Lib.cell_of_heap hg 0
  have g1 : wD.cell? ⟨w2.heap.size + 1, 1, none⟩ = some (.int .i64 1) := Lib.cell_of_heap hg 1
  have g2 : wD.cell? ⟨w2.heap.size + 1, 2, none⟩ = some (.int .i64 10) := Lib.cell_of_heap hg 2
  have h0 : wD.cell? ⟨w3.heap.size + 1, 0, none⟩ = some (.int .i64 7) := Lib.cell_of_heap hh 0
  have h1 : wD.cell? ⟨w3.heap.size + 1, 1, none⟩ = some (.int .i64 1) := Lib.cell_of_heap hh 1
  have h2 : wD.cell? ⟨w3.heap.size + 1, 2, none⟩ = some (.int .i64 22) := Lib.cell_of_heap hh 2
  clear hu hf hg hh
  go_wp2_with fail
  go_ret
  exact ⟨rfl, HBD.out⟩
end Go.Proofs.YtlclkeihkkpdbaaGreatDoor
