/- The walk of timetablelaw02.OrderNames: true. -/
import Derived.Test.YtjlnbeeffdallaaUq
namespace Go.Proofs.Ytjlnbeeffdallaa
open Go.RowKit

theorem Below.al {w W : World} (h : Below w.heap.size w W) (o : Obj) : Below w.heap.size w (W.alloc o) := h.alloc h.size o
set_option maxHeartbeats 2000000 in
theorem names_any (w : World) :
    Calls Try.prog 7 #[] w fun r w' => r = .returned (.bool true) ∧ Below w.heap.size w w' := by
  go_enter Try.func7, Try.ntmps7
  go_wp2_with fail
  refine (lives_any _).mono ?_
  rintro e w1 ⟨rfl, hb1⟩
  go_wp2_with fail
  refine (Merge_any _ _ [((1 : Int), (0 : Int)), (0, 0)] [((1 : Int), (7 : Int))] _ ((Sl.newl (n := 2) _ kc_len (by rfl) (by rfl) (by simp [maxLen]) (by first | rfl | simp)).alloc _) (Sl.newl (n := 1) _ kc_len (by rfl) (by rfl) (by simp [maxLen]) (by first | rfl | simp)) (by simp)).mono ?_
  rintro e w2 ⟨v2, rfl, ho2, hb2⟩
  rw [show [((1 : Int), (0 : Int)), (0, 0)].merge [((1 : Int), (7 : Int))] leK = [((1 : Int), (0 : Int)), (0, 0), (1, 7)] from by simp [leK]] at ho2
  have HB2 := Below.lift (Below.al (Below.al hb1 _) _) hb2
  go_wp2_with fail
  refine (sameKey_any _ _ [((1 : Int), (0 : Int)), (0, 0), (1, 7)] [((1 : Int), (0 : Int)), (0, 0), (1, 7)] _ ((ho2.alloc _).sl kc_len) (Sl.newl (n := 3) _ kc_len (by rfl) (by rfl) (by simp [maxLen]) (by first | rfl | simp)) (by simp)).mono ?_
  rintro e w3 ⟨rfl, n3, rfl⟩
  rw [decide_eq_true rfl]
  have HB3 := below_drewN (Below.al HB2 (.cells #[.int .i64 1, .int .i64 0, .int .i64 0, .int .i64 0, .int .i64 1, .int .i64 7] 27)) n3
  go_wp2_with fail
  refine (perm_any _ [5, 2, 5] _ (Sl.newl (n := 3) _ ic_len (by rfl) (by rfl) (by simp [maxLen]) (by first | rfl | simp)) (by simp)).mono ?_
  rintro e w4 ⟨v4, rfl, ho4, hb4⟩
  rw [show perm [5, 2, 5] = [1, 0, 2] from by decide] at ho4
  have HB4 := Below.lift (Below.al HB3 _) hb4
  go_wp2_with fail
  refine (sameInt_any _ _ [1, 0, 2] [1, 0, 2] _ ((ho4.alloc _).sl ic_len) (Sl.newl (n := 3) _ ic_len (by rfl) (by rfl) (by simp [maxLen]) (by first | rfl | simp)) (by simp)).mono ?_
  rintro e w5 ⟨rfl, n5, rfl⟩
  rw [decide_eq_true rfl]
  have HB5 := below_drewN (Below.al HB4 (.cells #[.int .i64 1, .int .i64 0, .int .i64 2] 3)) n5
  go_wp2_with fail
  refine (rising_any _ [] _ (Sl.nil_ (P := fun _ => True)) (by simp)).mono ?_
  rintro e w6 ⟨rfl, n6, rfl⟩
  rw [show stepsB (fun a b => decide (a < b)) [] = true from rfl]
  have HB6 := below_drewN (Below.al HB4 (.cells #[.int .i64 1, .int .i64 0, .int .i64 2] 3)) (n5 + n6)
  go_wp2_with fail
  refine (rising_any _ [1, 1] _ (Sl.newl (n := 2) _ ic_len (by rfl) (by rfl) (by simp [maxLen]) (by first | rfl | simp)) (by simp)).mono ?_
  rintro e w7 ⟨rfl, n7, rfl⟩
  rw [show stepsB (fun a b => decide (a < b)) [1, 1] = false from rfl]
  have HB7 := below_drewN (Below.al HB6 (.cells #[.int .i64 1, .int .i64 1] 2)) n7
  go_wp2_with fail
  refine (lower_any _ [2, 1] 0 _ (Sl.newl (n := 2) _ ic_len (by rfl) (by rfl) (by simp [maxLen]) (by first | rfl | simp)) (by simp)).mono ?_
  rintro e w8 ⟨rfl, hb8⟩
  rw [show lower [2, 1] 0 = -1 from by decide]
  have HB8 := Below.lift (Below.al HB7 _) hb8
  go_wp2_with fail
  refine (upper_any _ [] 5 _ (Sl.nil_ (P := fun _ => True)) (by simp)).mono ?_
  rintro e w9 ⟨rfl, hb9⟩
  rw [show upper [] 5 = 0 from by decide]
  have HB9 := Below.lift HB8 hb9
  go_wp2_with fail
  refine (uniq_any _ [3, 1, 3] _ (Sl.newl (n := 3) _ ic_len (by rfl) (by rfl) (by simp [maxLen]) (by first | rfl | simp)) (by simp)).mono ?_
  rintro e w10 ⟨v10, rfl, ho10, hb10⟩
  rw [show uq (sortI [3, 1, 3]) = [1, 3] from by decide] at ho10
  have HB10 := Below.lift (Below.al HB9 _) hb10
  go_wp2_with fail
  refine (sameI64_any _ _ [1, 3] [1, 3] _ ((ho10.alloc _).sl ic_len) (Sl.newl (n := 2) _ ic_len (by rfl) (by rfl) (by simp [maxLen]) (by first | rfl | simp)) (by simp)).mono ?_
  rintro e w11 ⟨rfl, n11, rfl⟩
  rw [decide_eq_true rfl]
  go_wp2_with fail
  go_ret
  exact ⟨rfl, below_drewN (Below.al HB10 _) n11⟩

end Go.Proofs.Ytjlnbeeffdallaa
