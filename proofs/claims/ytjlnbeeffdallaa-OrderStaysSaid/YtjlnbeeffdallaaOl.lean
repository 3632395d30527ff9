/- The walk of timetablelaw02.lives: true. -/
import Derived.Test.YtjlnbeeffdallaaLu
namespace Go.Proofs.Ytjlnbeeffdallaa
open Go.RowKit

theorem lives_srt : Ms.srt [((2 : Int), (0 : Int)), (1, 1), (2, 2)] = [(1, 1), (2, 0), (2, 2)] := by decide
theorem lives_lower : lower [1, 3, 3, 5] 3 = 1 := by decide
theorem lives_upper : upper [1, 3, 3, 5] 3 = 3 := by decide

set_option maxHeartbeats 1000000 in
theorem lives_any (w : World) :
    Calls Try.prog 9 #[] w fun r w' => r = .returned (.bool true) ∧ Below w.heap.size w w' := by
  go_enter Try.func9, Try.ntmps9
  go_wp2_with fail
  refine (sorted_any _ [((2 : Int), (0 : Int)), (1, 1), (2, 2)] _ (Sl.newl (n := 3) _ kc_len (by rfl) (by rfl) (by simp [maxLen]) (by rfl)) (by simp)).mono ?_
  rintro e w1 ⟨v1, rfl, ho1, hb1⟩
  rw [lives_srt] at ho1
  go_wp2_with fail
  refine (sameKey_any _ _ [((1 : Int), (1 : Int)), (2, 0), (2, 2)] [((1 : Int), (1 : Int)), (2, 0), (2, 2)] _ ((ho1.alloc _).sl kc_len) (Sl.newl (n := 3) _ kc_len (by rfl) (by rfl) (by simp [maxLen]) (by rfl)) (by simp)).mono ?_
  rintro e w2 ⟨rfl, n2, rfl⟩
  rw [decide_eq_true rfl]
  go_wp2_with fail
  refine (lower_any _ [1, 3, 3, 5] 3 _ (Sl.newl (n := 4) _ ic_len (by rfl) (by rfl) (by simp [maxLen]) (by simp)) (by simp)).mono ?_
  rintro e w3 ⟨rfl, hb3⟩
  rw [lives_lower]
  go_wp2_with fail
  refine (upper_any _ [1, 3, 3, 5] 3 _ (Sl.newl (n := 4) _ ic_len (by rfl) (by rfl) (by simp [maxLen]) (by simp)) (by simp)).mono ?_
  rintro e w4 ⟨rfl, hb4⟩
  rw [lives_upper]
  go_wp2_with fail
  go_ret
  refine ⟨rfl, ?_⟩
  have h1 : Below w.heap.size w w1 := ((Below.refl _ _).alloc (Nat.le_refl _) _).trans (hb1.mono (by simp))
  have h2 : Below w.heap.size w w3 := ((below_drewN (h1.alloc h1.size _) n2).alloc (Nat.le_trans h1.size (by simp)) _).trans (hb3.mono (Nat.le_trans h1.size (by simp; omega)))
  exact (h2.alloc h2.size _).trans (hb4.mono (Nat.le_trans h2.size (by simp)))

end Go.Proofs.Ytjlnbeeffdallaa
