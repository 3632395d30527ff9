/- The chapter's examples: the walk of lives. -/
import Derived.Test.YtongaakijljnaaaDoorLs
namespace Go.Proofs.YtongaakijljnaaaDoor
open Go.RowKit
def tA : List TokD := [⟨2, [115, 116, 111, 112], 0, 1, 1⟩, ⟨1, [97, 49], 0, 1, 6⟩, ⟨4, [], 0, 1, 12⟩]
theorem all_A : allD ⟨#[115, 116, 111, 112, 32, 97, 49, 32, 35, 32, 120, 10]⟩ = (tA, ⟨0, 0, 0⟩) := by decide +kernel
theorem all_B : allD ⟨#[48, 48, 55]⟩ = ([], ⟨7, 1, 1⟩) := by decide +kernel
theorem all_C : allD ⟨#[51, 120]⟩ = ([], ⟨7, 1, 2⟩) := by decide +kernel
set_option maxHeartbeats 1000000 in
set_option maxRecDepth 100000 in
theorem lives_any (w : World) (hT : Tabs w) (hL : LibOk w) : Calls Tryd.prog 9 #[] w fun e w' => e = .returned (.bool true) ∧ Below w.heap.size w w' := by
  have HT := Lib.hid hT
  have HL := Lib.hid hL
  clear hT hL
  go_enter Tryd.func9, Tryd.ntmps9
  go_wp2_with fail
  refine (all_ok _ w (by decide) HT.out HL.out).mono ?_
  rintro e w1 ⟨v1, rfl, ho1, hb1⟩
  rw [all_A] at ho1 ⊢
  dsimp only [FaultD.v]
  obtain ⟨A1, n1, c1, rfl⟩ := ow_form ho1
  have HO1 := Lib.hid ho1
  have HB1 := Lib.hid hb1
  clear ho1 hb1
  go_wp2_with fail
  obtain ⟨wA, hwA⟩ : ∃ wA, w1.alloc (.cells #[.int .i64 0, .int .i64 0, .int .i64 0] 26) = wA := ⟨_, rfl⟩
  have HQA := Lib.hid (show wA.heap[w1.heap.size]? = some (.cells #[.int .i64 0, .int .i64 0, .int .i64 0] 26 (0, 0)) by rw [← hwA]; exact heap_alloc_new _ _)
  have HBA := Lib.hid (show Below w.heap.size w wA by rw [← hwA]; exact HB1.out.alloc HB1.out.size _)
  have HSA := Lib.hid (show Sl tkc 5 wA (.slice A1 n1 c1) tA (fun _ => True) by rw [← hwA]; exact ((HO1.out.alloc _).sl tkc_len).mono fun _ _ => trivial)
  rw [hwA]
  have hlA : w1.heap.size < wA.heap.size := (Array.getElem?_eq_some_iff.1 HQA.out).1
  clear hwA HO1 HB1
  refine (all_ok _ wA (by decide) (HT.out.below HBA.out) (HL.out.below HBA.out)).mono ?_
  rintro e w2 ⟨v2, rfl, ho2, hb2⟩
  rw [all_B] at ho2 ⊢
  dsimp only [FaultD.v]
  have HB2 := Lib.hid (HBA.out.trans (hb2.mono HBA.out.size))
  have HS2 := Lib.hid (HSA.out.below_ hb2)
  have HQ2 := Lib.hid ((hb2.block _ hlA).trans HQA.out)
  clear ho2 hb2 HSA HQA HBA
  go_wp2_with fail
  obtain ⟨wC, hwC⟩ : ∃ wC, w2.alloc (.cells #[.int .i64 7, .int .i64 1, .int .i64 1] 26) = wC := ⟨_, rfl⟩
  have HQC := Lib.hid (show wC.heap[w2.heap.size]? = some (.cells #[.int .i64 7, .int .i64 1, .int .i64 1] 26 (0, 0)) by rw [← hwC]; exact heap_alloc_new _ _)
  have hlB : w1.heap.size < w2.heap.size := (Array.getElem?_eq_some_iff.1 HQ2.out).1
  have HPC := Lib.hid (show wC.heap[w1.heap.size]? = some (.cells #[.int .i64 0, .int .i64 0, .int .i64 0] 26 (0, 0)) by rw [← hwC]; exact (heap_alloc_old _ _ hlB).trans HQ2.out)
  have HBC := Lib.hid (show Below w.heap.size w wC by rw [← hwC]; exact HB2.out.alloc HB2.out.size _)
  have HSC := Lib.hid (show Sl tkc 5 wC (.slice A1 n1 c1) tA (fun _ => True) by rw [← hwC]; exact HS2.out.alloc _)
  rw [hwC]
  have hlC : w2.heap.size < wC.heap.size := (Array.getElem?_eq_some_iff.1 HQC.out).1
  clear hwC HS2 HB2 HQ2
  refine (all_ok _ wC (by decide) (HT.out.below HBC.out) (HL.out.below HBC.out)).mono ?_
  rintro e w3 ⟨v3, rfl, ho3, hb3⟩
  rw [all_C] at ho3 ⊢
  dsimp only [FaultD.v]
  have HB3 := Lib.hid (HBC.out.trans (hb3.mono HBC.out.size))
  have HS3 := Lib.hid (HSC.out.below_ hb3)
  have HQ3 := Lib.hid ((hb3.block _ hlC).trans HQC.out)
  have HP3 := Lib.hid ((hb3.block _ (Nat.lt_trans hlB hlC)).trans HPC.out)
  clear ho3 hb3 HSC HQC HBC HPC
  have hls : w2.heap.size < w3.heap.size := (Array.getElem?_eq_some_iff.1 HQ3.out).1
  obtain ⟨wD, hwD⟩ : ∃ wD, w3.alloc (.cells #[.int .i64 7, .int .i64 1, .int .i64 2] 26) = wD := ⟨_, rfl⟩
  have hzD : wD.heap.size = w3.heap.size + 1 := by rw [← hwD]; simp
  have HQD := Lib.hid (show wD.heap[w3.heap.size]? = some (.cells #[.int .i64 7, .int .i64 1, .int .i64 2] 26 (0, 0)) by rw [← hwD]; exact heap_alloc_new _ _)
  have HPD := Lib.hid (show wD.heap[w2.heap.size]? = some (.cells #[.int .i64 7, .int .i64 1, .int .i64 1] 26 (0, 0)) by rw [← hwD]; exact (heap_alloc_old _ _ hls).trans HQ3.out)
  have HOD := Lib.hid (show wD.heap[w1.heap.size]? = some (.cells #[.int .i64 0, .int .i64 0, .int .i64 0] 26 (0, 0)) by rw [← hwD]; exact (heap_alloc_old _ _ (Nat.lt_trans hlB hls)).trans HP3.out)
  have HBD := Lib.hid (show Below w.heap.size w wD by rw [← hwD]; exact HB3.out.alloc HB3.out.size _)
  have HSD := Lib.hid (show Sl tkc 5 wD (.slice A1 n1 c1) tA (fun _ => True) by rw [← hwD]; exact HS3.out.alloc _)
  clear HS3 HB3 HQ3 HP3 hlA hlB hlC
  have x0 : wD.cell? ⟨w1.heap.size, 0, none⟩ = some (.int .i64 0) := Lib.cell_of_heap HOD.out 0
  have x1 : wD.cell? ⟨w1.heap.size, 1, none⟩ = some (.int .i64 0) := Lib.cell_of_heap HOD.out 1
  have x2 : wD.cell? ⟨w1.heap.size, 2, none⟩ = some (.int .i64 0) := Lib.cell_of_heap HOD.out 2
  go_wp2_with fail
  obtain ⟨wE, hwE⟩ : ∃ wE, wD.alloc (.cells #[.int .i64 2, .string ⟨#[115, 116, 111, 112]⟩, .int .i64 0, .int .i64 1, .int .i64 1, .int .i64 1, .string ⟨#[97, 49]⟩, .int .i64 0, .int .i64 1, .int .i64 6, .int .i64 4, .string ⟨#[]⟩, .int .i64 0, .int .i64 1, .int .i64 12] 31) = wE := ⟨_, rfl⟩
  have HSE := Lib.hid (show Sl tkc 5 wE (.slice A1 n1 c1) tA (fun _ => True) by rw [← hwE]; exact HSD.out.alloc _)
  have HTE := Lib.hid (show Sl tkc 5 wE (.slice (some ⟨w3.heap.size + 1, 0, none⟩) 3 3) tA (fun _ => True) by rw [← hwE, ← hzD]; exact Sl.newl tA tkc_len rfl rfl (by show 3 ≤ maxLen; decide) rfl)
  have HBE := Lib.hid (show Below w.heap.size w wE by rw [← hwE]; exact HBD.out.alloc HBD.out.size _)
  have HQE := Lib.hid (show wE.heap[w3.heap.size]? = some (.cells #[.int .i64 7, .int .i64 1, .int .i64 2] 26 (0, 0)) by rw [← hwE]; exact (heap_alloc_old _ _ (by omega)).trans HQD.out)
  have HPE := Lib.hid (show wE.heap[w2.heap.size]? = some (.cells #[.int .i64 7, .int .i64 1, .int .i64 1] 26 (0, 0)) by rw [← hwE]; exact (heap_alloc_old _ _ (by omega)).trans HPD.out)
  rw [hwE]
  clear hwE hwD HSD HBD HQD HPD HOD x0 x1 x2
  refine (sameTok_any _ _ tA tA wE HSE.out HTE.out (by decide)).mono ?_
  rintro e w' ⟨rfl, n, rfl⟩
  rw [show decide (tA = tA) = true from decide_eq_true rfl]
  have x0 : wE.cell? ⟨w2.heap.size, 0, none⟩ = some (.int .i64 7) := Lib.cell_of_heap HPE.out 0
  have x1 : wE.cell? ⟨w2.heap.size, 1, none⟩ = some (.int .i64 1) := Lib.cell_of_heap HPE.out 1
  have x2 : wE.cell? ⟨w2.heap.size, 2, none⟩ = some (.int .i64 1) := Lib.cell_of_heap HPE.out 2
  have y0 : wE.cell? ⟨w3.heap.size, 0, none⟩ = some (.int .i64 7) := Lib.cell_of_heap HQE.out 0
  have y1 : wE.cell? ⟨w3.heap.size, 1, none⟩ = some (.int .i64 1) := Lib.cell_of_heap HQE.out 1
  have y2 : wE.cell? ⟨w3.heap.size, 2, none⟩ = some (.int .i64 2) := Lib.cell_of_heap HQE.out 2
  go_wp2_with fail
  go_ret
  exact ⟨rfl, below_drewN HBE.out n⟩
end Go.Proofs.YtongaakijljnaaaDoor
