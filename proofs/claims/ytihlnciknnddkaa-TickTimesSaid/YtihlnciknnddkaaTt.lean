/- The walk of the statement TickTimes. -/
import Derived.Test.YtihlnciknnddkaaLv
namespace Go.Proofs.Ytihlnciknnddkaa
open Go.RowKit

/-- What Go's remainder by 61 is, and what becomes of it: a number from 0 to 60. -/
theorem pick61 (n : Int) : ∃ m : Nat, m ≤ 60 ∧ ((0 ≤ n ∧ n % 61 = (m : Int)) ∨ (n < 0 ∧ n.tmod 61 = (m : Int)) ∨ (n < 0 ∧ 0 < (m : Int) ∧ n.tmod 61 = -(m : Int))) := by
  by_cases h : 0 ≤ n
  · exact ⟨(n % 61).toNat, by omega, .inl ⟨h, by omega⟩⟩
  · have e : n.tmod 61 = -((-n) % 61) := by
      rw [show n = -(-n) from by omega, Int.neg_tmod, Int.tmod_eq_emod_of_nonneg (by omega)]
      omega
    by_cases g : (-n) % 61 = 0
    · exact ⟨0, by omega, .inr (.inl ⟨by omega, by rw [e, g]; rfl⟩)⟩
    · exact ⟨((-n) % 61).toNat, by omega, .inr (.inr ⟨by omega, by omega, by rw [e]; omega⟩)⟩

set_option maxHeartbeats 1000000 in
theorem times_no (a n : Int) (w : World) (ha : Tk.isT a = false) :
    Calls Try.prog 6 #[.int .i64 a, .int .i64 n] w fun r w' => r = .returned (.bool true) ∧ Grown w w' := by
  obtain ⟨m, h2, h⟩ := pick61 n
  have e1 := (Tk.mul_no (a := a) (n := m) (.inl ha)).1
  have e2 := (Tk.mul_no (a := a) (n := m) (.inl ha)).2
  rcases h with ⟨h0, hm⟩ | ⟨h0, hm⟩ | ⟨h0, h1, hm⟩
  all_goals
    go_enter Try.func6, Try.ntmps6
    go_wp2_with (first | (go_at_call 7; refine (lives_any _).mono ?_; rintro e w' ⟨rfl, rfl⟩) | (go_at_call 8; refine (add_any _ _ _).mono ?_; rintro e w' ⟨rfl, rfl⟩) | (go_at_call 14; refine (mul_any _ _ _).mono ?_; rintro e w' ⟨rfl, rfl⟩) | (go_at_call 9; refine (is_any _ _).mono ?_; rintro e w' ⟨rfl, rfl⟩) | (go_at_call 13; refine (at_any _ _ _ _).mono ?_; rintro e w' ⟨rfl, rfl⟩))
    go_ret
    exact ⟨rfl, Grown.refl _⟩

set_option maxHeartbeats 2000000 in
theorem times_inf (n : Int) (w : World) :
    Calls Try.prog 6 #[.int .i64 4611686018427387904, .int .i64 n] w fun r w' => r = .returned (.bool true) ∧ Grown w w' := by
  obtain ⟨m, h2, h⟩ := pick61 n
  have ha := Tk.isT_inf
  have q3 := (Tk.at_no (f := 0) (e := 4611686018427387904) (i := m) (.inr (.inl (Tk.chk_no (by omega))))).1
  generalize e : (4611686018427387904 : Int) = a at *
  have q1 : (a == a) = true := beq_self_eq_true _
  rcases h with ⟨h0, hm⟩ | ⟨h0, hm⟩ | ⟨h0, h1, hm⟩
  all_goals
    go_enter Try.func6, Try.ntmps6
    go_wp2_with (first | (go_at_call 7; refine (lives_any _).mono ?_; rintro e w' ⟨rfl, rfl⟩) | (go_at_call 8; refine (add_any _ _ _).mono ?_; rintro e w' ⟨rfl, rfl⟩) | (go_at_call 14; refine (mul_any _ _ _).mono ?_; rintro e w' ⟨rfl, rfl⟩) | (go_at_call 9; refine (is_any _ _).mono ?_; rintro e w' ⟨rfl, rfl⟩) | (go_at_call 13; refine (at_any _ _ _ _).mono ?_; rintro e w' ⟨rfl, rfl⟩))
    clear hm
    go_loop [7, 8, 9] (fun s f i => ∃ k : Nat, k ≤ m ∧ s = .int .i64 (Tk.mulV a k) ∧ f = .int .i64 (Tk.mulE a k) ∧ i = .int .i64 k) (fun _ _ i => m - (intOf i).toNat)
    case atStart => exact ⟨0, Nat.zero_le _, by rw [show Tk.mulV a ((0 : Nat) : Int) = 0 from (Tk.mul_zero' ha).2], by rw [show Tk.mulE a ((0 : Nat) : Int) = 0 from (Tk.mul_zero' ha).1], rfl⟩
    case round =>
      obtain ⟨k, hk, rfl, rfl, rfl⟩ := hrel
      by_cases hlt : k < m
      · have hmp : 0 < m := by omega
        by_cases he : Tk.mulE a k = 0
        · have hs := Tk.mul_step ha (Int.natCast_nonneg k) he
          have hs1 := hs.1
          have hs2 := hs.2
          clear hs
          go_wp2_with (first | (go_at_call 7; refine (lives_any _).mono ?_; rintro e w' ⟨rfl, rfl⟩) | (go_at_call 8; refine (add_any _ _ _).mono ?_; rintro e w' ⟨rfl, rfl⟩) | (go_at_call 14; refine (mul_any _ _ _).mono ?_; rintro e w' ⟨rfl, rfl⟩) | (go_at_call 9; refine (is_any _ _).mono ?_; rintro e w' ⟨rfl, rfl⟩) | (go_at_call 13; refine (at_any _ _ _ _).mono ?_; rintro e w' ⟨rfl, rfl⟩))
          go_round
          case rel => exact ⟨k + 1, by omega, by go_num, by go_num, by go_num⟩
          case measure => simp [intOf]; omega
        · have hs := Tk.mul_mono ha (Int.natCast_nonneg k) (by omega : (k : Int) ≤ (m : Int)) he
          have hs1 := hs.1
          have hs2 := hs.2
          clear hs he
          go_wp2_with (first | (go_at_call 7; refine (lives_any _).mono ?_; rintro e w' ⟨rfl, rfl⟩) | (go_at_call 8; refine (add_any _ _ _).mono ?_; rintro e w' ⟨rfl, rfl⟩) | (go_at_call 14; refine (mul_any _ _ _).mono ?_; rintro e w' ⟨rfl, rfl⟩) | (go_at_call 9; refine (is_any _ _).mono ?_; rintro e w' ⟨rfl, rfl⟩) | (go_at_call 13; refine (at_any _ _ _ _).mono ?_; rintro e w' ⟨rfl, rfl⟩))
          go_ret
          exact ⟨rfl, Grown.refl _⟩
      · obtain rfl : k = m := by omega
        by_cases he : Tk.mulE a k = 0
        · go_wp2_with (first | (go_at_call 7; refine (lives_any _).mono ?_; rintro e w' ⟨rfl, rfl⟩) | (go_at_call 8; refine (add_any _ _ _).mono ?_; rintro e w' ⟨rfl, rfl⟩) | (go_at_call 14; refine (mul_any _ _ _).mono ?_; rintro e w' ⟨rfl, rfl⟩) | (go_at_call 9; refine (is_any _ _).mono ?_; rintro e w' ⟨rfl, rfl⟩) | (go_at_call 13; refine (at_any _ _ _ _).mono ?_; rintro e w' ⟨rfl, rfl⟩))
          go_ret
          exact ⟨rfl, Grown.refl _⟩
        · have hs := (Tk.mul_mono ha (Int.natCast_nonneg k) (Int.le_refl _) he).1
          clear he
          go_wp2_with (first | (go_at_call 7; refine (lives_any _).mono ?_; rintro e w' ⟨rfl, rfl⟩) | (go_at_call 8; refine (add_any _ _ _).mono ?_; rintro e w' ⟨rfl, rfl⟩) | (go_at_call 14; refine (mul_any _ _ _).mono ?_; rintro e w' ⟨rfl, rfl⟩) | (go_at_call 9; refine (is_any _ _).mono ?_; rintro e w' ⟨rfl, rfl⟩) | (go_at_call 13; refine (at_any _ _ _ _).mono ?_; rintro e w' ⟨rfl, rfl⟩))
          go_ret
          exact ⟨rfl, Grown.refl _⟩

set_option maxHeartbeats 2000000 in
theorem times_zero (a n : Int) (w : World) (h00 : a = 0) :
    Calls Try.prog 6 #[.int .i64 a, .int .i64 n] w fun r w' => r = .returned (.bool true) ∧ Grown w w' := by
  obtain ⟨m, h2, h⟩ := pick61 n
  have ha : Tk.isT a = true := Tk.isT_tick (by omega)
  have q1 : (a == 4611686018427387904) = false := beq_eq_false_iff_ne.2 (by omega)
  have q2 : (a == 0) = true := beq_iff_eq.2 h00
  by_cases hm0 : 0 < m
  · have q3 := (Tk.at_no (f := 0) (e := a) (i := m) (.inr (.inr (.inr ⟨h00, by omega⟩)))).1
    have q5 : decide (0 < (m : Int)) = true := decide_eq_true (by omega)
    clear h00
    rcases h with ⟨h0, hm⟩ | ⟨h0, hm⟩ | ⟨h0, h1, hm⟩
    all_goals
      go_enter Try.func6, Try.ntmps6
      go_wp2_with (first | (go_at_call 7; refine (lives_any _).mono ?_; rintro e w' ⟨rfl, rfl⟩) | (go_at_call 8; refine (add_any _ _ _).mono ?_; rintro e w' ⟨rfl, rfl⟩) | (go_at_call 14; refine (mul_any _ _ _).mono ?_; rintro e w' ⟨rfl, rfl⟩) | (go_at_call 9; refine (is_any _ _).mono ?_; rintro e w' ⟨rfl, rfl⟩) | (go_at_call 13; refine (at_any _ _ _ _).mono ?_; rintro e w' ⟨rfl, rfl⟩))
      clear hm
      go_loop [7, 8, 9] (fun s f i => ∃ k : Nat, k ≤ m ∧ s = .int .i64 (Tk.mulV a k) ∧ f = .int .i64 (Tk.mulE a k) ∧ i = .int .i64 k) (fun _ _ i => m - (intOf i).toNat)
      case atStart => exact ⟨0, Nat.zero_le _, by rw [show Tk.mulV a ((0 : Nat) : Int) = 0 from (Tk.mul_zero' ha).2], by rw [show Tk.mulE a ((0 : Nat) : Int) = 0 from (Tk.mul_zero' ha).1], rfl⟩
      case round =>
        obtain ⟨k, hk, rfl, rfl, rfl⟩ := hrel
        by_cases hlt : k < m
        · have hmp : 0 < m := by omega
          by_cases he : Tk.mulE a k = 0
          · have hs := Tk.mul_step ha (Int.natCast_nonneg k) he
            have hs1 := hs.1
            have hs2 := hs.2
            clear hs
            go_wp2_with (first | (go_at_call 7; refine (lives_any _).mono ?_; rintro e w' ⟨rfl, rfl⟩) | (go_at_call 8; refine (add_any _ _ _).mono ?_; rintro e w' ⟨rfl, rfl⟩) | (go_at_call 14; refine (mul_any _ _ _).mono ?_; rintro e w' ⟨rfl, rfl⟩) | (go_at_call 9; refine (is_any _ _).mono ?_; rintro e w' ⟨rfl, rfl⟩) | (go_at_call 13; refine (at_any _ _ _ _).mono ?_; rintro e w' ⟨rfl, rfl⟩))
            go_round
            case rel => exact ⟨k + 1, by omega, by go_num, by go_num, by go_num⟩
            case measure => simp [intOf]; omega
          · have hs := Tk.mul_mono ha (Int.natCast_nonneg k) (by omega : (k : Int) ≤ (m : Int)) he
            have hs1 := hs.1
            have hs2 := hs.2
            clear hs he
            go_wp2_with (first | (go_at_call 7; refine (lives_any _).mono ?_; rintro e w' ⟨rfl, rfl⟩) | (go_at_call 8; refine (add_any _ _ _).mono ?_; rintro e w' ⟨rfl, rfl⟩) | (go_at_call 14; refine (mul_any _ _ _).mono ?_; rintro e w' ⟨rfl, rfl⟩) | (go_at_call 9; refine (is_any _ _).mono ?_; rintro e w' ⟨rfl, rfl⟩) | (go_at_call 13; refine (at_any _ _ _ _).mono ?_; rintro e w' ⟨rfl, rfl⟩))
            go_ret
            exact ⟨rfl, Grown.refl _⟩
        · obtain rfl : k = m := by omega
          by_cases he : Tk.mulE a k = 0
          · go_wp2_with (first | (go_at_call 7; refine (lives_any _).mono ?_; rintro e w' ⟨rfl, rfl⟩) | (go_at_call 8; refine (add_any _ _ _).mono ?_; rintro e w' ⟨rfl, rfl⟩) | (go_at_call 14; refine (mul_any _ _ _).mono ?_; rintro e w' ⟨rfl, rfl⟩) | (go_at_call 9; refine (is_any _ _).mono ?_; rintro e w' ⟨rfl, rfl⟩) | (go_at_call 13; refine (at_any _ _ _ _).mono ?_; rintro e w' ⟨rfl, rfl⟩))
            go_ret
            exact ⟨rfl, Grown.refl _⟩
          · have hs := (Tk.mul_mono ha (Int.natCast_nonneg k) (Int.le_refl _) he).1
            clear he
            go_wp2_with (first | (go_at_call 7; refine (lives_any _).mono ?_; rintro e w' ⟨rfl, rfl⟩) | (go_at_call 8; refine (add_any _ _ _).mono ?_; rintro e w' ⟨rfl, rfl⟩) | (go_at_call 14; refine (mul_any _ _ _).mono ?_; rintro e w' ⟨rfl, rfl⟩) | (go_at_call 9; refine (is_any _ _).mono ?_; rintro e w' ⟨rfl, rfl⟩) | (go_at_call 13; refine (at_any _ _ _ _).mono ?_; rintro e w' ⟨rfl, rfl⟩))
            go_ret
            exact ⟨rfl, Grown.refl _⟩
  · obtain rfl : m = 0 := by omega
    have q3 := (Tk.at_mul (a := a) (n := 0) (by omega) (by omega) (by omega)).1
    have q4 : Tk.atV 0 a 0 = 0 := (Tk.at_mul (a := a) (n := 0) (by omega) (by omega) (by omega)).2.trans (Tk.mul_zero' ha).2
    have q6 := (Tk.mul_zero' ha).1
    have q7 := (Tk.mul_zero' ha).2
    clear h00
    have h' : (0 ≤ n ∧ n % 61 = 0) ∨ (n < 0 ∧ n.tmod 61 = 0) := by
      rcases h with h | h | ⟨_, h, _⟩
      · exact .inl h
      · exact .inr h
      · omega
    clear h hm0 h2
    rcases h' with ⟨h0, hm⟩ | ⟨h0, hm⟩
    all_goals
      go_enter Try.func6, Try.ntmps6
      go_wp2_with (first | (go_at_call 7; refine (lives_any _).mono ?_; rintro e w' ⟨rfl, rfl⟩) | (go_at_call 8; refine (add_any _ _ _).mono ?_; rintro e w' ⟨rfl, rfl⟩) | (go_at_call 14; refine (mul_any _ _ _).mono ?_; rintro e w' ⟨rfl, rfl⟩) | (go_at_call 9; refine (is_any _ _).mono ?_; rintro e w' ⟨rfl, rfl⟩) | (go_at_call 13; refine (at_any _ _ _ _).mono ?_; rintro e w' ⟨rfl, rfl⟩))
      clear hm
      go_loop [7, 8, 9] (fun s f i => s = .int .i64 0 ∧ f = .int .i64 0 ∧ i = .int .i64 0) (fun _ _ _ => 0)
      case atStart => exact ⟨rfl, rfl, rfl⟩
      case round =>
        obtain ⟨rfl, rfl, rfl⟩ := hrel
        go_wp2_with (first | (go_at_call 7; refine (lives_any _).mono ?_; rintro e w' ⟨rfl, rfl⟩) | (go_at_call 8; refine (add_any _ _ _).mono ?_; rintro e w' ⟨rfl, rfl⟩) | (go_at_call 14; refine (mul_any _ _ _).mono ?_; rintro e w' ⟨rfl, rfl⟩) | (go_at_call 9; refine (is_any _ _).mono ?_; rintro e w' ⟨rfl, rfl⟩) | (go_at_call 13; refine (at_any _ _ _ _).mono ?_; rintro e w' ⟨rfl, rfl⟩))
        go_ret
        exact ⟨rfl, Grown.refl _⟩

set_option maxHeartbeats 2000000 in
theorem times_pos (a n : Int) (w : World) (a1 : 0 < a) (a2 : a ≤ 1099511627776) :
    Calls Try.prog 6 #[.int .i64 a, .int .i64 n] w fun r w' => r = .returned (.bool true) ∧ Grown w w' := by
  obtain ⟨m, h2, h⟩ := pick61 n
  have ha := Tk.isT_tick (t := a) ⟨by omega, a2⟩
  have q1 : (a == 4611686018427387904) = false := beq_eq_false_iff_ne.2 (by omega)
  have q2 : (a == 0) = false := beq_eq_false_iff_ne.2 (by omega)
  have q3 := (Tk.at_mul (a := a) (n := m) ⟨by omega, a2⟩ (by omega) (by omega)).1
  have q4 := (Tk.at_mul (a := a) (n := m) ⟨by omega, a2⟩ (by omega) (by omega)).2
  rcases h with ⟨h0, hm⟩ | ⟨h0, hm⟩ | ⟨h0, h1, hm⟩
  all_goals
    go_enter Try.func6, Try.ntmps6
    go_wp2_with (first | (go_at_call 7; refine (lives_any _).mono ?_; rintro e w' ⟨rfl, rfl⟩) | (go_at_call 8; refine (add_any _ _ _).mono ?_; rintro e w' ⟨rfl, rfl⟩) | (go_at_call 14; refine (mul_any _ _ _).mono ?_; rintro e w' ⟨rfl, rfl⟩) | (go_at_call 9; refine (is_any _ _).mono ?_; rintro e w' ⟨rfl, rfl⟩) | (go_at_call 13; refine (at_any _ _ _ _).mono ?_; rintro e w' ⟨rfl, rfl⟩))
    clear hm
    go_loop [7, 8, 9] (fun s f i => ∃ k : Nat, k ≤ m ∧ s = .int .i64 (Tk.mulV a k) ∧ f = .int .i64 (Tk.mulE a k) ∧ i = .int .i64 k) (fun _ _ i => m - (intOf i).toNat)
    case atStart => exact ⟨0, Nat.zero_le _, by rw [show Tk.mulV a ((0 : Nat) : Int) = 0 from (Tk.mul_zero' ha).2], by rw [show Tk.mulE a ((0 : Nat) : Int) = 0 from (Tk.mul_zero' ha).1], rfl⟩
    case round =>
      obtain ⟨k, hk, rfl, rfl, rfl⟩ := hrel
      by_cases hlt : k < m
      · have hmp : 0 < m := by omega
        by_cases he : Tk.mulE a k = 0
        · have hs := Tk.mul_step ha (Int.natCast_nonneg k) he
          have hs1 := hs.1
          have hs2 := hs.2
          clear hs
          go_wp2_with (first | (go_at_call 7; refine (lives_any _).mono ?_; rintro e w' ⟨rfl, rfl⟩) | (go_at_call 8; refine (add_any _ _ _).mono ?_; rintro e w' ⟨rfl, rfl⟩) | (go_at_call 14; refine (mul_any _ _ _).mono ?_; rintro e w' ⟨rfl, rfl⟩) | (go_at_call 9; refine (is_any _ _).mono ?_; rintro e w' ⟨rfl, rfl⟩) | (go_at_call 13; refine (at_any _ _ _ _).mono ?_; rintro e w' ⟨rfl, rfl⟩))
          go_round
          case rel => exact ⟨k + 1, by omega, by go_num, by go_num, by go_num⟩
          case measure => simp [intOf]; omega
        · have hs := Tk.mul_mono ha (Int.natCast_nonneg k) (by omega : (k : Int) ≤ (m : Int)) he
          have hs1 := hs.1
          have hs2 := hs.2
          clear hs he
          go_wp2_with (first | (go_at_call 7; refine (lives_any _).mono ?_; rintro e w' ⟨rfl, rfl⟩) | (go_at_call 8; refine (add_any _ _ _).mono ?_; rintro e w' ⟨rfl, rfl⟩) | (go_at_call 14; refine (mul_any _ _ _).mono ?_; rintro e w' ⟨rfl, rfl⟩) | (go_at_call 9; refine (is_any _ _).mono ?_; rintro e w' ⟨rfl, rfl⟩) | (go_at_call 13; refine (at_any _ _ _ _).mono ?_; rintro e w' ⟨rfl, rfl⟩))
          go_ret
          exact ⟨rfl, Grown.refl _⟩
      · obtain rfl : k = m := by omega
        by_cases he : Tk.mulE a k = 0
        · go_wp2_with (first | (go_at_call 7; refine (lives_any _).mono ?_; rintro e w' ⟨rfl, rfl⟩) | (go_at_call 8; refine (add_any _ _ _).mono ?_; rintro e w' ⟨rfl, rfl⟩) | (go_at_call 14; refine (mul_any _ _ _).mono ?_; rintro e w' ⟨rfl, rfl⟩) | (go_at_call 9; refine (is_any _ _).mono ?_; rintro e w' ⟨rfl, rfl⟩) | (go_at_call 13; refine (at_any _ _ _ _).mono ?_; rintro e w' ⟨rfl, rfl⟩))
          go_ret
          exact ⟨rfl, Grown.refl _⟩
        · have hs := (Tk.mul_mono ha (Int.natCast_nonneg k) (Int.le_refl _) he).1
          clear he
          go_wp2_with (first | (go_at_call 7; refine (lives_any _).mono ?_; rintro e w' ⟨rfl, rfl⟩) | (go_at_call 8; refine (add_any _ _ _).mono ?_; rintro e w' ⟨rfl, rfl⟩) | (go_at_call 14; refine (mul_any _ _ _).mono ?_; rintro e w' ⟨rfl, rfl⟩) | (go_at_call 9; refine (is_any _ _).mono ?_; rintro e w' ⟨rfl, rfl⟩) | (go_at_call 13; refine (at_any _ _ _ _).mono ?_; rintro e w' ⟨rfl, rfl⟩))
          go_ret
          exact ⟨rfl, Grown.refl _⟩

theorem times_any (a n : Int) (w : World) :
    Calls Try.prog 6 #[.int .i64 a, .int .i64 n] w fun r w' => r = .returned (.bool true) ∧ Grown w w' := by
  rcases Tk.kinds a with ⟨h, _, _⟩ | rfl | ⟨a1, a2⟩
  · exact times_no a n w h
  · exact times_inf n w
  · by_cases h : a = 0
    · exact times_zero a n w h
    · exact times_pos a n w (by omega) a2

end Go.Proofs.Ytihlnciknnddkaa
