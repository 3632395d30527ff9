/- The walks of the statements BitsetNames, BitsetNil. -/
import Derived.Test.YtaaladekamfpnaaDoorSi
namespace Go.Proofs.YtaaladekamfpnaaDoor
open Go.RowKit Bs

set_option maxRecDepth 100000 in
set_option maxHeartbeats 2000000 in
theorem names_any (w : World) (hT : Tab w) (hg : 0 < w.heap.size) :
    Calls Tryd.prog 4 #[] w fun r w' => r = .returned (.bool true) ∧ Below w.heap.size w w' := by
  have HT := Lib.hid hT
  clear hT
  go_enter Tryd.func4, Tryd.ntmps4
  go_wp2_with fail
  refine (new_bad (-1) w (by omega)).mono ?_
  rintro e w' ⟨rfl, rfl⟩
  go_wp2_with fail
  refine (new_bad 1048577 w (by omega)).mono ?_
  rintro e w' ⟨rfl, rfl⟩
  go_wp2_with fail
  refine (new_ok 70 w (by omega)).mono ?_
  rintro e w1 ⟨p, rfl, hs, hb1⟩
  go_wp2_with fail
  refine (new_ok 71 w1 (by omega)).mono ?_
  rintro e w2 ⟨q, rfl, ht, hb2⟩
  have hs := hs.below_ hb2
  have hb := Below.lift hb1 hb2
  go_wp2_with fail
  refine (put_out w2 _ _ p _ 70 hs (by rw [List.length_replicate]; decide)).mono ?_
  rintro e w' ⟨rfl, rfl⟩
  go_wp2_with fail
  refine (take_out w2 _ _ p _ (-1) hs (by decide)).mono ?_
  rintro e w' ⟨rfl, rfl⟩
  go_wp2_with fail
  refine (lives_any w2 (HT.out.below hb hg) (Nat.lt_of_lt_of_le hg hb.size)).mono ?_
  rintro e w3 ⟨rfl, hb3⟩
  have hs := hs.below_ hb3
  have ht := ht.below_ hb3
  have hb := Below.lift hb hb3
  go_wp2_with fail
  refine (setOr_arg w3 _ _ p _ _ q _ _ hs ht (by rw [List.length_replicate, List.length_replicate]; decide)).mono ?_
  rintro e w4 ⟨rfl, n, rfl⟩
  have hs := hs.drewN n
  have ht := ht.drewN n
  have hb := below_drewN hb n
  generalize w3.drewN n = w4 at *
  go_wp2_with fail
  refine (setOr_nil2 w4 p).mono ?_
  rintro e w' ⟨rfl, rfl⟩
  go_wp2_with fail
  refine (next_any w4 _ _ p _ 0 hs (HT.out.below hb hg)).mono ?_
  rintro e w' ⟨rfl, rfl⟩
  rw [show next (List.replicate 70 false) 0 = -1 by decide +kernel]
  go_wp2_with fail
  refine (width_any w4 _ _ p _ hs).mono ?_
  rintro e w' ⟨rfl, rfl⟩
  rw [List.length_replicate]
  go_wp2_with fail
  refine (setSame_any w4 _ _ p _ _ q _ _ hs ht).mono ?_
  rintro e w5 ⟨rfl, n2, rfl⟩
  rw [show decide (List.replicate 70 false = List.replicate 71 false) = false by decide +kernel]
  have hs := hs.drewN n2
  have hb := below_drewN hb n2
  generalize w4.drewN n2 = w5 at *
  go_wp2_with fail
  refine (has_in w5 _ _ p _ 5 hs (by rw [List.length_replicate]; decide)).mono ?_
  rintro e w' ⟨rfl, rfl⟩
  rw [show at_ (List.replicate 70 false) 5 = false by decide]
  go_wp2_with fail
  go_ret
  exact ⟨rfl, hb⟩

set_option maxHeartbeats 400000 in
theorem clear_nil (w : World) : Calls Tryd.prog 31 #[.pointer none] w fun e w' => e = .returned (.tuple #[]) ∧ w = w' := by
  go_enter Tryd.func31, Tryd.ntmps31
  go_wp2
  go_end0
  exact ⟨rfl, rfl⟩
set_option maxHeartbeats 400000 in
theorem list_nil (w : World) : Calls Tryd.prog 14 #[.pointer none] w fun e w' => e = .returned (.slice none 0 0) ∧ w = w' := by
  have H := Lib.hid (next_nil w 0)
  go_enter Tryd.func14, Tryd.ntmps14
  go_wp2_with (go_at_call 17; refine H.out.mono ?_; rintro e w' ⟨rfl, rfl⟩)
  go_loop [3, 4] (fun s3 s4 => s3 = .slice none 0 0 ∧ s4 = .int .i64 (-1)) (fun _ _ => 0)
  case atStart => exact ⟨rfl, rfl⟩
  case round =>
    obtain ⟨rfl, rfl⟩ := hrel
    go_wp2
    go_ret
    exact ⟨rfl, rfl⟩

set_option maxRecDepth 100000 in
set_option maxHeartbeats 2000000 in
theorem nil_any (i : Int) (w : World) (hT : Tab w) (hg : 0 < w.heap.size) :
    Calls Tryd.prog 8 #[.int .i64 i] w fun r w' => r = .returned (.bool true) ∧ Below w.heap.size w w' := by
  have HL := Lib.hid (lives_any w hT hg)
  go_enter Tryd.func8, Tryd.ntmps8
  go_wp2_with fail
  refine HL.out.mono ?_
  rintro e w1 ⟨rfl, hb1⟩
  go_wp2_with fail
  refine (put_nil w1 i).mono ?_
  rintro e w' ⟨rfl, rfl⟩
  go_wp2_with fail
  refine (take_nil w1 i).mono ?_
  rintro e w' ⟨rfl, rfl⟩
  go_wp2_with fail
  refine (clear_nil w1).mono ?_
  rintro e w' ⟨rfl, rfl⟩
  go_wp2_with fail
  refine (new_ok 3 w1 (by omega)).mono ?_
  rintro e w2 ⟨p, rfl, hs, hb2⟩
  have hb := Below.lift hb1 hb2
  go_wp2_with fail
  refine (has_nil w2 i).mono ?_
  rintro e w' ⟨rfl, rfl⟩
  go_wp2_with fail
  refine (width_nil w2).mono ?_
  rintro e w' ⟨rfl, rfl⟩
  go_wp2_with fail
  refine (count_nil w2).mono ?_
  rintro e w' ⟨rfl, rfl⟩
  go_wp2_with fail
  refine (next_nil w2 i).mono ?_
  rintro e w' ⟨rfl, rfl⟩
  go_wp2_with fail
  refine (list_nil w2).mono ?_
  rintro e w' ⟨rfl, rfl⟩
  go_wp2_with fail
  refine (setOr_nil1 w2 _).mono ?_
  rintro e w' ⟨rfl, rfl⟩
  go_wp2_with fail
  refine (setAnd_nil1 w2 _).mono ?_
  rintro e w' ⟨rfl, rfl⟩
  go_wp2_with fail
  refine (setMinus_nil2 w2 p).mono ?_
  rintro e w' ⟨rfl, rfl⟩
  go_wp2_with fail
  refine (clone_nil w2).mono ?_
  rintro e w' ⟨rfl, rfl⟩
  go_wp2_with fail
  refine (setSame_nil_nil w2).mono ?_
  rintro e w' ⟨rfl, rfl⟩
  go_wp2_with fail
  refine (setSame_set_nil w2 p).mono ?_
  rintro e w' ⟨rfl, rfl⟩
  go_wp2_with fail
  go_ret
  exact ⟨rfl, hb⟩
end Go.Proofs.YtaaladekamfpnaaDoor
