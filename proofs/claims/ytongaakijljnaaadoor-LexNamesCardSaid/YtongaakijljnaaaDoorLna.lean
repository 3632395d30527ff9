/- The law LexNames: its walk. -/
import Derived.Test.YtongaakijljnaaaDoorLtx
import Derived.Test.YtongaakijljnaaaDoorLu
import Derived.Laws.IdiomStrings
import Derived.Laws.OwnMore
namespace Go.Proofs.YtongaakijljnaaaDoor
open Go.RowKit
/-- Blocks that hold faults. -/
def Flts (w : World) (bs : List (Nat × FaultD)) : Prop := ∀ p ∈ bs, w.heap[p.1]? = some (.cells #[.int .i64 p.2.err, .int .i64 p.2.line, .int .i64 p.2.col] 26 (0, 0))
theorem Flts.below {w w' : World} {bs : List (Nat × FaultD)} (h : Flts w bs) (hb : Below w.heap.size w w') : Flts w' bs :=
  fun p hp => (hb.block _ (Array.getElem?_eq_some_iff.1 (h p hp)).1).trans (h p hp)
theorem Flts.alloc {w : World} {bs : List (Nat × FaultD)} (h : Flts w bs) (a b c : Int) : Flts (w.alloc (.cells #[.int .i64 a, .int .i64 b, .int .i64 c] 26)) ((w.heap.size, ⟨a, b, c⟩) :: bs) := by
  intro p hp
  rcases List.mem_cons.1 hp with rfl | hp
  · exact heap_alloc_new _ _
  · exact (heap_alloc_old _ _ (Array.getElem?_eq_some_iff.1 (h p hp)).1).trans (h p hp)
/-- A text of n bytes that are zero, out of a row that has just been made. -/
theorem zeros_conv (w : World) (n : Nat) (hn : n ≤ 1048576) : ∃ S : ByteArray, S.size = n ∧
    (Instr.makeSlice 38 (.int .i64 (n : Int)) (.int .i64 (n : Int))).run Tryd.prog w = .ok (.slice (some ⟨w.heap.size, 0, none⟩) n n) (w.alloc (freshRow (.int .u8 0) 1 n 5)) ∧
    (convert 38 9 (.slice (some ⟨w.heap.size, 0, none⟩) n n)).run Tryd.prog (w.alloc (freshRow (.int .u8 0) 1 n 5)) = .ok (.string S) (w.alloc (freshRow (.int .u8 0) 1 n 5)) := by
  obtain ⟨i0, hi0, hz0, hz1, hz2⟩ := info_parts (show (Tryd.prog.info? 5).map (fun i => (i.zero, i.size, i.bytes)) = some (some (.int .u8 0), 1, 1) by kernel_rfl)
  refine ⟨⟨(List.replicate n (0 : UInt8)).toArray⟩, by show (List.replicate n (0 : UInt8)).toArray.size = n; simp, run_make_fresh _ _ i0 (.int .u8 0) 1 1 Tryd.underlying38 hi0 hz0 hz1 hz2 n n (Nat.le_refl _) (by omega) (by omega) w, ?_⟩
  have h := run_convert_bytes_back (P := Tryd.prog) (w.alloc (freshRow (.int .u8 0) 1 n 5)) 38 9 5 ⟨w.heap.size, 0, none⟩ n (List.replicate n (0 : UInt8)) Tryd.underlying38 Tryd.underlying5 Tryd.underlying9 (fun j hj => by
    have hj2 : j < n := by simpa using hj
    have e : (⟨w.heap.size, 0, none⟩ : Addr).add j = ⟨w.heap.size, j, none⟩ := by unfold Addr.add; split <;> simp_all
    rw [e, freshRow, World.cell?_alloc_mark, ← Array.getElem?_toList, Nat.mul_one, show (Value.int .u8 0).cells = #[.int .u8 0] from rfl, toList_madeCells_one, List.getElem?_replicate, if_pos hj2]
    simp)
  rw [List.length_replicate] at h
  exact h
def tE : List TokD := [⟨3, [55], 7, 1, 1⟩, ⟨1, [97], 0, 1, 3⟩, ⟨4, [], 0, 1, 4⟩]
theorem all_n1 : allD ⟨#[97, 10, 32, 32, 49, 48, 57, 57, 53, 49, 49, 54, 50, 55, 55, 55, 55]⟩ = ([], ⟨3, 2, 3⟩) := by decide +kernel
theorem all_n2 : allD ⟨#[97, 98, 99, 100, 101, 102, 103, 104, 105, 106, 107, 108, 109, 110, 111, 112, 113, 114, 115, 116, 117, 118, 119, 120, 121]⟩ = ([], ⟨3, 1, 1⟩) := by decide +kernel
theorem all_n3 : allD ⟨#[97, 32, 65]⟩ = ([], ⟨7, 1, 3⟩) := by decide +kernel
theorem all_n4 : allD ⟨#[55, 32, 97]⟩ = (tE, ⟨0, 0, 0⟩) := by decide +kernel
theorem tE_text : textF true tE = [55, 32, 97, 10] := by decide +kernel
theorem nm_1 : Nm.name [97, 45, 98, 95, 50] = true := by decide +kernel
theorem nm_2 : Nm.name [111, 112, 101, 110] = false := by decide +kernel
theorem nm_3 : Nm.name [50, 97] = false := by decide +kernel
theorem nm_4 : Nm.res [115, 116, 97, 121] = true := by decide +kernel
theorem nm_5 : Nm.res [100, 101, 108, 97, 121] = false := by decide +kernel
set_option maxHeartbeats 4000000 in
set_option maxRecDepth 100000 in
theorem lnames_any (w : World) (hT : Tabs w) (hL : LibOk w) (hP : Pow w) :
    Calls Tryd.prog 6 #[] w fun e w' => e = .returned (.bool true) ∧ Below w.heap.size w w' := by
  have HT := Lib.hid hT
  have HL := Lib.hid hL
  have HP := Lib.hid hP
  clear hT hL hP
  obtain ⟨S, hS, hm, hcv⟩ := zeros_conv w 65537 (by decide)
  obtain ⟨wM, hwM⟩ : ∃ wM, w.alloc (freshRow (.int .u8 0) 1 65537 5) = wM := ⟨_, rfl⟩
  rw [hwM] at hm hcv
  have HBM := Lib.hid (show Below w.heap.size w wM by rw [← hwM]; exact (Below.refl _ _).alloc (Nat.le_refl _) _)
  have hm2 : (Instr.makeSlice 38 (.int .i64 65537) (.int .i64 65537)).run Tryd.prog w = .ok (.slice (some ⟨w.heap.size, 0, none⟩) 65537 65537) wM := hm
  clear hwM hm
  go_enter Tryd.func6, Tryd.ntmps6
  go_wp2_with fail
  refine (all_big S wM (by rw [hS]; decide)).mono ?_
  rintro e w1 ⟨rfl, hb1⟩
  rw [show (allD S).2 = ⟨3, 1, 1⟩ by unfold allD; rw [if_pos (by rw [hS]; decide)]]
  dsimp only [FaultD.v]
  have HB1 := Lib.hid (HBM.out.trans (hb1.mono HBM.out.size))
  clear hb1 hm2 hcv
  go_wp2_with fail
  obtain ⟨u1, hu1⟩ : ∃ u1, w1.alloc (.cells #[.int .i64 3, .int .i64 1, .int .i64 1] 26) = u1 := ⟨_, rfl⟩
  have HF1 := Lib.hid (show Flts u1 [(w1.heap.size, ⟨3, 1, 1⟩)] by rw [← hu1]; exact Flts.alloc (bs := []) (fun p hp => by cases hp) 3 1 1)
  have HC1 := Lib.hid (show Below w.heap.size w u1 by rw [← hu1]; exact HB1.out.alloc HB1.out.size _)
  rw [hu1]
  clear hu1 HB1
  refine (all_ok _ u1 (by decide) (HT.out.below HC1.out) (HL.out.below HC1.out)).mono ?_
  rintro e w2 ⟨v2, rfl, ho2, hb2⟩
  rw [all_n1] at ho2 ⊢
  dsimp only [FaultD.v]
  have G2 := Lib.hid (HF1.out.below hb2)
  have HB2 := Lib.hid (HC1.out.trans (hb2.mono HC1.out.size))
  clear ho2 hb2 HF1 HC1
  go_wp2_with fail
  obtain ⟨u2, hu2⟩ : ∃ u2, w2.alloc (.cells #[.int .i64 3, .int .i64 2, .int .i64 3] 26) = u2 := ⟨_, rfl⟩
  have HF2 := Lib.hid (show Flts u2 [(w2.heap.size, ⟨3, 2, 3⟩), (w1.heap.size, ⟨3, 1, 1⟩)] by rw [← hu2]; exact Flts.alloc G2.out 3 2 3)
  have HC2 := Lib.hid (show Below w.heap.size w u2 by rw [← hu2]; exact HB2.out.alloc HB2.out.size _)
  rw [hu2]
  clear hu2 HB2 G2
  refine (all_ok _ u2 (by decide) (HT.out.below HC2.out) (HL.out.below HC2.out)).mono ?_
  rintro e w3 ⟨v3, rfl, ho3, hb3⟩
  rw [all_n2] at ho3 ⊢
  dsimp only [FaultD.v]
  have G3 := Lib.hid (HF2.out.below hb3)
  have HB3 := Lib.hid (HC2.out.trans (hb3.mono HC2.out.size))
  clear ho3 hb3 HF2 HC2
  go_wp2_with fail
  obtain ⟨u3, hu3⟩ : ∃ u3, w3.alloc (.cells #[.int .i64 3, .int .i64 1, .int .i64 1] 26) = u3 := ⟨_, rfl⟩
  have HF3 := Lib.hid (show Flts u3 [(w3.heap.size, ⟨3, 1, 1⟩), (w2.heap.size, ⟨3, 2, 3⟩), (w1.heap.size, ⟨3, 1, 1⟩)] by rw [← hu3]; exact Flts.alloc G3.out 3 1 1)
  have HC3 := Lib.hid (show Below w.heap.size w u3 by rw [← hu3]; exact HB3.out.alloc HB3.out.size _)
  rw [hu3]
  clear hu3 HB3 G3
  refine (all_ok _ u3 (by decide) (HT.out.below HC3.out) (HL.out.below HC3.out)).mono ?_
  rintro e w4 ⟨v4, rfl, ho4, hb4⟩
  rw [all_n3] at ho4 ⊢
  dsimp only [FaultD.v]
  have G4 := Lib.hid (HF3.out.below hb4)
  have HB4 := Lib.hid (HC3.out.trans (hb4.mono HC3.out.size))
  clear ho4 hb4 HF3 HC3
  go_wp2_with fail
  obtain ⟨u4, hu4⟩ : ∃ u4, w4.alloc (.cells #[.int .i64 7, .int .i64 1, .int .i64 3] 26) = u4 := ⟨_, rfl⟩
  have HF4 := Lib.hid (show Flts u4 [(w4.heap.size, ⟨7, 1, 3⟩), (w3.heap.size, ⟨3, 1, 1⟩), (w2.heap.size, ⟨3, 2, 3⟩), (w1.heap.size, ⟨3, 1, 1⟩)] by rw [← hu4]; exact Flts.alloc G4.out 7 1 3)
  have HC4 := Lib.hid (show Below w.heap.size w u4 by rw [← hu4]; exact HB4.out.alloc HB4.out.size _)
  rw [hu4]
  clear hu4 HB4 G4
  refine (all_ok _ u4 (by decide) (HT.out.below HC4.out) (HL.out.below HC4.out)).mono ?_
  rintro e w5 ⟨v5, rfl, ho5, hb5⟩
  rw [all_n4] at ho5 ⊢
  dsimp only [FaultD.v]
  have G5 := Lib.hid (HF4.out.below hb5)
  have HB5 := Lib.hid (HC4.out.trans (hb5.mono HC4.out.size))
  obtain ⟨A5, n5, c5, rfl⟩ := ow_form ho5
  have S5 := Lib.hid (ho5.sl tkc_len |>.mono (P' := fun _ => True) fun _ _ => trivial)
  clear ho5 hb5 HF4 HC4
  go_wp2_with fail
  obtain ⟨u5, hu5⟩ : ∃ u5, w5.alloc (.cells #[.int .i64 0, .int .i64 0, .int .i64 0] 26) = u5 := ⟨_, rfl⟩
  have HF5 := Lib.hid (show Flts u5 [(w5.heap.size, ⟨0, 0, 0⟩), (w4.heap.size, ⟨7, 1, 3⟩), (w3.heap.size, ⟨3, 1, 1⟩), (w2.heap.size, ⟨3, 2, 3⟩), (w1.heap.size, ⟨3, 1, 1⟩)] by rw [← hu5]; exact Flts.alloc G5.out 0 0 0)
  have HC5 := Lib.hid (show Below w.heap.size w u5 by rw [← hu5]; exact HB5.out.alloc HB5.out.size _)
  have HS5 := Lib.hid (show Sl tkc 5 u5 (.slice A5 n5 c5) tE (fun _ => True) by rw [← hu5]; exact S5.out.alloc _)
  rw [hu5]
  clear hu5 HB5 G5
  refine (lives_any u5 (HT.out.below HC5.out) (HL.out.below HC5.out)).mono ?_
  rintro e u6 ⟨rfl, hb6⟩
  have G6 := HF5.out.below hb6
  have HC6 := Lib.hid (HC5.out.trans (hb6.mono HC5.out.size))
  have HS6 := HS5.out.below_ hb6
  obtain ⟨b, o, cap, e9, _, _, hlt, _, hx⟩ := HS6.form (by decide)
  injection e9 with e9 e10 e11
  subst e9
  have hn5 : n5 = 3 := e10
  subst hn5
  have HS9 := Lib.hid HS6
  have p2 : u6.cell? ⟨b, o + 2, none⟩ = some (.int .i64 7) := by simpa using hx 0 _ rfl 2 _ rfl
  have q0 : u6.cell? ⟨b, o + 10, none⟩ = some (.int .i64 4) := by simpa using hx 2 _ rfl 0 _ rfl
  have q1 : u6.cell? ⟨b, o + 10 + 1, none⟩ = some (.string ⟨#[]⟩) := by
    have h : u6.cell? ⟨b, o + 10 + 1, none⟩ = some (.string (ba [])) := by simpa using hx 2 _ rfl 1 _ rfl
    exact h
  have q2 : u6.cell? ⟨b, o + 10 + 2, none⟩ = some (.int .i64 0) := by simpa using hx 2 _ rfl 2 _ rfl
  have q3 : u6.cell? ⟨b, o + 10 + 3, none⟩ = some (.int .i64 1) := by simpa using hx 2 _ rfl 3 _ rfl
  have q4 : u6.cell? ⟨b, o + 10 + 4, none⟩ = some (.int .i64 4) := by simpa using hx 2 _ rfl 4 _ rfl
  have fa0 : u6.cell? ⟨w1.heap.size, 0, none⟩ = some (.int .i64 3) := Lib.cell_of_heap (G6 (w1.heap.size, ⟨3, 1, 1⟩) (by simp)) 0
  have fa1 : u6.cell? ⟨w1.heap.size, 1, none⟩ = some (.int .i64 1) := Lib.cell_of_heap (G6 (w1.heap.size, ⟨3, 1, 1⟩) (by simp)) 1
  have fa2 : u6.cell? ⟨w1.heap.size, 2, none⟩ = some (.int .i64 1) := Lib.cell_of_heap (G6 (w1.heap.size, ⟨3, 1, 1⟩) (by simp)) 2
  have fb0 : u6.cell? ⟨w2.heap.size, 0, none⟩ = some (.int .i64 3) := Lib.cell_of_heap (G6 (w2.heap.size, ⟨3, 2, 3⟩) (by simp)) 0
  have fb1 : u6.cell? ⟨w2.heap.size, 1, none⟩ = some (.int .i64 2) := Lib.cell_of_heap (G6 (w2.heap.size, ⟨3, 2, 3⟩) (by simp)) 1
  have fb2 : u6.cell? ⟨w2.heap.size, 2, none⟩ = some (.int .i64 3) := Lib.cell_of_heap (G6 (w2.heap.size, ⟨3, 2, 3⟩) (by simp)) 2
  have fc0 : u6.cell? ⟨w3.heap.size, 0, none⟩ = some (.int .i64 3) := Lib.cell_of_heap (G6 (w3.heap.size, ⟨3, 1, 1⟩) (by simp)) 0
  have fc1 : u6.cell? ⟨w3.heap.size, 1, none⟩ = some (.int .i64 1) := Lib.cell_of_heap (G6 (w3.heap.size, ⟨3, 1, 1⟩) (by simp)) 1
  have fc2 : u6.cell? ⟨w3.heap.size, 2, none⟩ = some (.int .i64 1) := Lib.cell_of_heap (G6 (w3.heap.size, ⟨3, 1, 1⟩) (by simp)) 2
  have fd0 : u6.cell? ⟨w4.heap.size, 0, none⟩ = some (.int .i64 7) := Lib.cell_of_heap (G6 (w4.heap.size, ⟨7, 1, 3⟩) (by simp)) 0
  have fd1 : u6.cell? ⟨w4.heap.size, 1, none⟩ = some (.int .i64 1) := Lib.cell_of_heap (G6 (w4.heap.size, ⟨7, 1, 3⟩) (by simp)) 1
  have fd2 : u6.cell? ⟨w4.heap.size, 2, none⟩ = some (.int .i64 3) := Lib.cell_of_heap (G6 (w4.heap.size, ⟨7, 1, 3⟩) (by simp)) 2
  have fe0 : u6.cell? ⟨w5.heap.size, 0, none⟩ = some (.int .i64 0) := Lib.cell_of_heap (G6 (w5.heap.size, ⟨0, 0, 0⟩) (by simp)) 0
  have fe1 : u6.cell? ⟨w5.heap.size, 1, none⟩ = some (.int .i64 0) := Lib.cell_of_heap (G6 (w5.heap.size, ⟨0, 0, 0⟩) (by simp)) 1
  have fe2 : u6.cell? ⟨w5.heap.size, 2, none⟩ = some (.int .i64 0) := Lib.cell_of_heap (G6 (w5.heap.size, ⟨0, 0, 0⟩) (by simp)) 2
  have k1 := fault_yes 3 1 1 3 1 1 rfl
  have k2 := fault_yes 3 2 3 3 2 3 rfl
  have k3 := fault_yes 7 1 3 7 1 3 rfl
  have k4 := fault_yes 0 0 0 0 0 0 rfl
  clear hx e10 e11 G6 HF5 hb6 HS6 HS5 HC5
  go_wp2_with fail
  refine (lname_any ⟨#[97, 45, 98, 95, 50]⟩ u6 (by decide) (HT.out.below HC6.out)).mono ?_
  rintro e u7 ⟨rfl, hb7⟩
  rw [show Nm.name (⟨#[97, 45, 98, 95, 50]⟩ : ByteArray).data.toList = true from nm_1]
  have HC7 := Lib.hid (HC6.out.trans (hb7.mono HC6.out.size))
  have HT7 := Lib.hid (HS9.out.below_ hb7)
  clear hb7 HC6 HS9 p2 q0 q1 q2 q3 q4 fa0 fa1 fa2 fb0 fb1 fb2 fc0 fc1 fc2 fd0 fd1 fd2 fe0 fe1 fe2
  go_wp2_with fail
  refine (lname_any ⟨#[111, 112, 101, 110]⟩ u7 (by decide) (HT.out.below HC7.out)).mono ?_
  rintro e u8 ⟨rfl, hb8⟩
  rw [show Nm.name (⟨#[111, 112, 101, 110]⟩ : ByteArray).data.toList = false from nm_2]
  have HC8 := Lib.hid (HC7.out.trans (hb8.mono HC7.out.size))
  have HT8 := Lib.hid (HT7.out.below_ hb8)
  clear hb8 HC7 HT7
  go_wp2_with fail
  refine (lname_any ⟨#[50, 97]⟩ u8 (by decide) (HT.out.below HC8.out)).mono ?_
  rintro e u9 ⟨rfl, hb9⟩
  rw [show Nm.name (⟨#[50, 97]⟩ : ByteArray).data.toList = false from nm_3]
  have HC9 := Lib.hid (HC8.out.trans (hb9.mono HC8.out.size))
  have HT9 := Lib.hid (HT8.out.below_ hb9)
  clear hb9 HC8 HT8
  go_wp2_with fail
  refine (lres_any ⟨#[115, 116, 97, 121]⟩ u9 (HT.out.below HC9.out)).mono ?_
  rintro e u10 ⟨rfl, hb10⟩
  rw [show Nm.res (⟨#[115, 116, 97, 121]⟩ : ByteArray).data.toList = true from nm_4]
  have HC10 := Lib.hid (HC9.out.trans (hb10.mono HC9.out.size))
  have HT10 := Lib.hid (HT9.out.below_ hb10)
  clear hb10 HC9 HT9
  go_wp2_with fail
  refine (lres_any ⟨#[100, 101, 108, 97, 121]⟩ u10 (HT.out.below HC10.out)).mono ?_
  rintro e u11 ⟨rfl, hb11⟩
  rw [show Nm.res (⟨#[100, 101, 108, 97, 121]⟩ : ByteArray).data.toList = false from nm_5]
  have HC11 := Lib.hid (HC10.out.trans (hb11.mono HC10.out.size))
  have HT11 := Lib.hid (HT10.out.below_ hb11)
  clear hb11 HC10 HT10
  go_wp2_with fail
  refine (text_any u11 _ tE HT11.out (by decide) (by rw [tE_text]; decide) (HP.out.below HC11.out)).mono ?_
  rintro e u12 ⟨rfl, hb12⟩
  rw [tE_text]
  have HC12 := Lib.hid (HC11.out.trans (hb12.mono HC11.out.size))
  clear hb12
  have hbt : (ba [55, 32, 97, 10]).toList = [55, 32, 97, 10] := ba_toList _
  go_wp2_with fail
  go_ret
  exact ⟨rfl, HC12.out⟩
end Go.Proofs.YtongaakijljnaaaDoor
