/- The walk of timetablekit.Pick: the remainder, from 0 on. -/
import Derived.Test.YteonefgbdphmiaaGreatDoorRows
import Derived.WalkKit
import Derived.WalkSpells
import Derived.WalkLawsBesides
import Derived.Lib.Hide
namespace Go.Proofs.YteonefgbdphmiaaGreatDoor
open Go.RowKit

theorem tmod_facts (n m : Int) (hm : 1 ≤ m) : -m < n.tmod m ∧ n.tmod m < m ∧ (n.tmod m < 0 → n % m = n.tmod m + m) ∧ (0 ≤ n.tmod m → n % m = n.tmod m) := by
  have h1 := Int.tmod_add_mul_tdiv n m
  rcases Int.lt_or_le n 0 with hn | hn
  · have h2 : n.tmod m = -((-n) % m) := by
      have := Int.neg_tmod (-n) m
      rw [Int.neg_neg] at this
      rw [this, Int.tmod_eq_emod_of_nonneg (by omega)]
    have h3 := Int.emod_nonneg (-n) (show m ≠ 0 by omega)
    have h4 := Int.emod_lt_of_pos (-n) (show 0 < m by omega)
    refine ⟨by omega, by omega, fun h => ?_, fun h => ?_⟩
    · rw [h2]
      have h6 := Int.emod_def n m
      have h7 := Int.emod_def (-n) m
      have h8 := Int.emod_nonneg n (show m ≠ 0 by omega)
      have h9 := Int.emod_lt_of_pos n (show 0 < m by omega)
      -- n % m and m - (-n) % m are alike modulo m, and both below m
      have e : n % m + (-n) % m = m * (-(n / m) - (-n) / m) := by
        rw [h6, h7, Int.mul_sub, Int.mul_neg]; omega
      have hpos : 0 < (-n) % m := by omega
      generalize -(n / m) - (-n) / m = q at e
      have hq : q = 1 := by
        have b1 : 0 < m * q := by omega
        have b2 : m * q < m * 2 := by omega
        have c1 : 0 < q := by
          rcases Int.lt_or_le 0 q with h | h
          · exact h
          · have := Int.mul_nonpos_of_nonneg_of_nonpos (show 0 ≤ m by omega) h
            omega
        have c2 : q < 2 := Int.lt_of_mul_lt_mul_left b2 (by omega)
        omega
      rw [hq] at e
      omega
    · rw [h2] at h ⊢
      have h5 : (-n) % m = 0 := by omega
      have hd : m ∣ n := by
        have := Int.dvd_of_emod_eq_zero h5
        exact (Int.dvd_neg).1 this
      rw [h5, Int.emod_eq_zero_of_dvd hd]; rfl
  · have h2 := Int.tmod_eq_emod_of_nonneg (a := n) (b := m) hn
    have h3 := Int.emod_nonneg n (show m ≠ 0 by omega)
    have h4 := Int.emod_lt_of_pos n (show 0 < m by omega)
    exact ⟨by omega, by omega, fun h => by omega, fun h => h2.symm⟩

set_option maxHeartbeats 400000 in
theorem pick_any (n m : Int) (w : World) (hm : 1 ≤ m) (hm2 : m ≤ 1099511627776) :
    Calls Tryz.prog 14 #[.int .i64 n, .int .i64 m] w fun e w' => e = .returned (.int .i64 (n % m)) ∧ w = w' := by
  obtain ⟨t1, t2, t3, t4⟩ := tmod_facts n m hm
  have T3 := Lib.hid t3
  have T4 := Lib.hid t4
  have hz : (m == 0) = false := beq_eq_false_iff_ne.2 (by omega)
  have hmm : -9223372036854775808 ≤ n.tmod m := by omega
  have hmx : n.tmod m ≤ 9223372036854775807 := by omega
  clear t3 t4
  generalize ht : n.tmod m = t at *
  have Ht := Lib.hid ht
  by_cases h0 : t < 0
  · rw [T3.out h0]
    go_enter Tryz.func14, Tryz.ntmps14
    go_wp2
    go_ret
    exact ⟨rfl, rfl⟩
  · have h0' : 0 ≤ t := by omega
    rw [T4.out h0']
    go_enter Tryz.func14, Tryz.ntmps14
    go_wp2
    go_ret
    exact ⟨rfl, rfl⟩
theorem pick_lt (n m : Int) (hm : 1 ≤ m) : 0 ≤ n % m ∧ n % m < m := ⟨Int.emod_nonneg n (by omega), Int.emod_lt_of_pos n (by omega)⟩
end Go.Proofs.YteonefgbdphmiaaGreatDoor
