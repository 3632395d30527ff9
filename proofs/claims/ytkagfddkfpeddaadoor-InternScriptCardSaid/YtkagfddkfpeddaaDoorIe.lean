/- The walks of lives and of the law InternNil. -/
import Derived.Test.YtkagfddkfpeddaaDoorId
namespace Go.Proofs.YtkagfddkfpeddaaDoor
open Go.RowKit Go.Maps It

/-- A slice's literal of names. -/
theorem sl_lit (w : World) (l : Nms) (h : l.length ≤ 1048576) (t : TypeId) : Sl nc 1 (w.alloc (.cells (l.flatMap nc).toArray t)) (.slice (some ⟨w.heap.size, 0, none⟩) l.length l.length) l (fun _ => True) :=
  Sl.newl l nc_len (by simp) rfl (by unfold maxLen; omega) rfl
theorem srt_ba : srt [[98], [97]] = [[97], [98]] := by
  have h1 : decide (([98] : List UInt8) ≤ [97]) = false := by decide
  simp [srt, List.mergeSort, leB, h1]
set_option maxHeartbeats 1000000 in
theorem lives_any (w : World) (hT : Tabs w) : Calls Tryd.prog 9 #[] w fun e w' => e = .returned (.bool true) ∧ Below w.heap.size w w' := by
  have hS := sl_lit w [[98], [97]] (by decide) 9
  have HN := Lib.hid (new_any _ _ [[98], [97]] hS (by decide) (hT.below ((Below.refl _ w).alloc (Nat.le_refl _) _)))
  clear hS
  go_enter Tryd.func9, Tryd.ntmps9
  go_wp2_with fail
  refine HN.out.mono ?_
  clear HN
  rintro e w1 (⟨_, p, b, v, rfl, ht, hb⟩ | ⟨h0, _, _⟩)
  rotate_left 1
  · exact absurd (by decide) h0
  have HB := Lib.hid (show Below w.heap.size w w1 from Below.lift ((Below.refl _ w).alloc (Nat.le_refl _) _) hb)
  have HT := Lib.hid ht
  have hn := num_any w1 _ p b v _ [97] ht (by decide)
  rw [show num [[98], [97]] [97] = 1 from by decide, show List.contains ([[98], [97]] : Nms) [97] = true from by decide] at hn
  have HN := Lib.hid hn
  have hs := sorted_any w1 _ p b v _ ht
  rw [srt_ba] at hs
  have HS := Lib.hid hs
  clear ht hb hn hs
  go_wp2_with fail
  refine HN.out.mono ?_
  rintro e w' ⟨rfl, rfl⟩
  go_wp2_with fail
  refine HS.out.mono ?_
  rintro e w2 ⟨v2, rfl, ho, hb2⟩
  have HO := Lib.hid ho
  have HB2 := Lib.hid (Below.lift HB.out hb2)
  have hSl := sl_lit w2 [[97], [98]] (by decide) 9
  have HSame := Lib.hid (sameStr_self v2 _ [[97], [98]] _ ((ho.sl nc_len).alloc _) hSl (by decide))
  clear ho hb2 hSl
  go_wp2_with fail
  refine HSame.out.mono ?_
  rintro e w' ⟨rfl, n, rfl⟩
  go_wp2_with fail
  go_ret
  exact ⟨rfl, below_drewN (HB2.out.alloc HB2.out.size _) n⟩
set_option maxRecDepth 100000 in
set_option maxHeartbeats 1000000 in
theorem internNil_any (s : ByteArray) (i : Int) (w : World) (hT : Tabs w) : Calls Tryd.prog 8 #[.string s, .int .i64 i] w fun e w' => e = .returned (.bool true) ∧ Below w.heap.size w w' := by
  have HL := Lib.hid (lives_any w hT)
  go_enter Tryd.func8, Tryd.ntmps8
  go_wp2_with fail
  refine HL.out.mono ?_
  rintro e w1 ⟨rfl, hb⟩
  have HB := Lib.hid hb
  clear hb
  go_wp2_with fail
  refine (add_nil _ _).mono ?_
  rintro e w' ⟨rfl, rfl⟩
  go_wp2_with fail
  refine (num_nil _ _).mono ?_
  rintro e w' ⟨rfl, rfl⟩
  go_wp2_with fail
  refine (nameAt_nil _ _).mono ?_
  rintro e w' ⟨rfl, rfl⟩
  have hz : ((ba []).toList == []) = true := by rw [ba_toList]; rfl
  go_wp2_with (first | (go_at_call 14; refine (len_nil _).mono ?_; rintro e w' ⟨rfl, rfl⟩) | (go_at_call 19; refine (all_nil _).mono ?_; rintro e w' ⟨rfl, rfl⟩) | (go_at_call 16; refine (sorted_nil _).mono ?_; rintro e w' ⟨rfl, rfl⟩) | (go_at_call 20; refine (clone_nil _).mono ?_; rintro e w' ⟨rfl, rfl⟩))
  go_ret
  exact ⟨rfl, HB.out⟩
end Go.Proofs.YtkagfddkfpeddaaDoor
