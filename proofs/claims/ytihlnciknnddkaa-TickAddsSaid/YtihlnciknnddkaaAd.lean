/- The walk of the statement TickAdds. -/
import Derived.Test.YtihlnciknnddkaaLv
namespace Go.Proofs.Ytihlnciknnddkaa
open Go.RowKit
set_option maxHeartbeats 1000000 in
/-- Where no sum is told. -/
theorem adds_no (a b c : Int) (w : World) (h : Tk.isT a = false ∨ Tk.isT b = false ∨ ((0 ≤ a ∧ a ≤ 1099511627776) ∧ (0 ≤ b ∧ b ≤ 1099511627776) ∧ 1099511627776 < a + b)) :
    Calls Try.prog 3 #[.int .i64 a, .int .i64 b, .int .i64 c] w fun e w' => e = .returned (.bool true) ∧ Grown w w' := by
  rcases h with h | h | ⟨⟨a1, a2⟩, ⟨b1, b2⟩, h⟩
  · have h1 := (Tk.add_bad (a := a) (b := b) (.inl h)).1
    have h2 := (Tk.add_bad (a := a) (b := b) (.inl h)).2
    have h3 := (Tk.add_bad (a := b) (b := a) (.inr h)).1
    have h4 := (Tk.add_bad (a := b) (b := a) (.inr h)).2
    (go_enter Try.func3, Try.ntmps3; go_wp2_with (first | (go_at_call 7; refine (lives_any _).mono ?_; rintro e w' ⟨rfl, rfl⟩) | (go_at_call 8; refine (add_any _ _ _).mono ?_; rintro e w' ⟨rfl, rfl⟩) | (go_at_call 10; refine (sub_any _ _ _).mono ?_; rintro e w' ⟨rfl, rfl⟩) | (go_at_call 9; refine (is_any _ _).mono ?_; rintro e w' ⟨rfl, rfl⟩)); go_ret; exact ⟨rfl, Grown.refl _⟩)
  · have h1 := (Tk.add_bad (a := a) (b := b) (.inr h)).1
    have h2 := (Tk.add_bad (a := a) (b := b) (.inr h)).2
    have h3 := (Tk.add_bad (a := b) (b := a) (.inl h)).1
    have h4 := (Tk.add_bad (a := b) (b := a) (.inl h)).2
    cases h5 : Tk.isT a
    all_goals (go_enter Try.func3, Try.ntmps3; go_wp2_with (first | (go_at_call 7; refine (lives_any _).mono ?_; rintro e w' ⟨rfl, rfl⟩) | (go_at_call 8; refine (add_any _ _ _).mono ?_; rintro e w' ⟨rfl, rfl⟩) | (go_at_call 10; refine (sub_any _ _ _).mono ?_; rintro e w' ⟨rfl, rfl⟩) | (go_at_call 9; refine (is_any _ _).mono ?_; rintro e w' ⟨rfl, rfl⟩)); go_ret; exact ⟨rfl, Grown.refl _⟩)
  · have h1 := (Tk.add_over ⟨a1, a2⟩ ⟨b1, b2⟩ h).1
    have h2 := (Tk.add_over ⟨a1, a2⟩ ⟨b1, b2⟩ h).2
    have h3 := (Tk.add_over ⟨b1, b2⟩ ⟨a1, a2⟩ (by omega)).1
    have h4 := (Tk.add_over ⟨b1, b2⟩ ⟨a1, a2⟩ (by omega)).2
    have h5 := Tk.isT_tick ⟨a1, a2⟩
    have h6 := Tk.isT_tick ⟨b1, b2⟩
    have h7 : decide (1099511627776 < a + b) = true := decide_eq_true h
    (go_enter Try.func3, Try.ntmps3; go_wp2_with (first | (go_at_call 7; refine (lives_any _).mono ?_; rintro e w' ⟨rfl, rfl⟩) | (go_at_call 8; refine (add_any _ _ _).mono ?_; rintro e w' ⟨rfl, rfl⟩) | (go_at_call 10; refine (sub_any _ _ _).mono ?_; rintro e w' ⟨rfl, rfl⟩) | (go_at_call 9; refine (is_any _ _).mono ?_; rintro e w' ⟨rfl, rfl⟩)); go_ret; exact ⟨rfl, Grown.refl _⟩)

set_option maxHeartbeats 1000000 in
/-- Both are the tick that never comes, or the first is and the second is a tick. -/
theorem adds_inf1 (b c : Int) (w : World) (hb : Tk.isT b = true) :
    Calls Try.prog 3 #[.int .i64 4611686018427387904, .int .i64 b, .int .i64 c] w fun e w' => e = .returned (.bool true) ∧ Grown w w' := by
  have hi := Tk.isT_inf
  have h1 := (Tk.add_inf hi hb (.inl rfl)).1
  have h2 := (Tk.add_inf hi hb (.inl rfl)).2
  have h3 := (Tk.add_inf hb hi (.inr rfl)).1
  have h4 := (Tk.add_inf hb hi (.inr rfl)).2
  have h5 := (Tk.add_inf hi hi (.inr rfl)).1
  have h6 := (Tk.add_inf hi hi (.inr rfl)).2
  rcases Tk.kinds b with ⟨h, _, _⟩ | rfl | ⟨b1, b2⟩
  · rw [h] at hb; cases hb
  · cases hc : Tk.isT c
    · have h7 := (Tk.add_bad (a := 4611686018427387904) (b := c) (.inr hc)).1
      have h8 := (Tk.add_bad (a := 4611686018427387904) (b := c) (.inr hc)).2
      (go_enter Try.func3, Try.ntmps3; go_wp2_with (first | (go_at_call 7; refine (lives_any _).mono ?_; rintro e w' ⟨rfl, rfl⟩) | (go_at_call 8; refine (add_any _ _ _).mono ?_; rintro e w' ⟨rfl, rfl⟩) | (go_at_call 10; refine (sub_any _ _ _).mono ?_; rintro e w' ⟨rfl, rfl⟩) | (go_at_call 9; refine (is_any _ _).mono ?_; rintro e w' ⟨rfl, rfl⟩)); go_ret; exact ⟨rfl, Grown.refl _⟩)
    · have h7 := (Tk.add_inf hi hc (.inl rfl)).1
      have h8 := (Tk.add_inf hi hc (.inl rfl)).2
      (go_enter Try.func3, Try.ntmps3; go_wp2_with (first | (go_at_call 7; refine (lives_any _).mono ?_; rintro e w' ⟨rfl, rfl⟩) | (go_at_call 8; refine (add_any _ _ _).mono ?_; rintro e w' ⟨rfl, rfl⟩) | (go_at_call 10; refine (sub_any _ _ _).mono ?_; rintro e w' ⟨rfl, rfl⟩) | (go_at_call 9; refine (is_any _ _).mono ?_; rintro e w' ⟨rfl, rfl⟩)); go_ret; exact ⟨rfl, Grown.refl _⟩)
  · have hq : (b == 4611686018427387904) = false := beq_eq_false_iff_ne.2 (by omega)
    have hs := (Tk.sub_inf ⟨b1, b2⟩).1
    have hs' := (Tk.sub_inf ⟨b1, b2⟩).2
    rcases Tk.kinds c with ⟨hc, _, _⟩ | rfl | ⟨c1, c2⟩
    · have h7 := (Tk.add_bad (a := 4611686018427387904) (b := c) (.inr hc)).1
      have h8 := (Tk.add_bad (a := 4611686018427387904) (b := c) (.inr hc)).2
      have h9 := (Tk.add_bad (a := b) (b := c) (.inr hc)).1
      have h10 := (Tk.add_bad (a := b) (b := c) (.inr hc)).2
      (go_enter Try.func3, Try.ntmps3; go_wp2_with (first | (go_at_call 7; refine (lives_any _).mono ?_; rintro e w' ⟨rfl, rfl⟩) | (go_at_call 8; refine (add_any _ _ _).mono ?_; rintro e w' ⟨rfl, rfl⟩) | (go_at_call 10; refine (sub_any _ _ _).mono ?_; rintro e w' ⟨rfl, rfl⟩) | (go_at_call 9; refine (is_any _ _).mono ?_; rintro e w' ⟨rfl, rfl⟩)); go_ret; exact ⟨rfl, Grown.refl _⟩)
    · (go_enter Try.func3, Try.ntmps3; go_wp2_with (first | (go_at_call 7; refine (lives_any _).mono ?_; rintro e w' ⟨rfl, rfl⟩) | (go_at_call 8; refine (add_any _ _ _).mono ?_; rintro e w' ⟨rfl, rfl⟩) | (go_at_call 10; refine (sub_any _ _ _).mono ?_; rintro e w' ⟨rfl, rfl⟩) | (go_at_call 9; refine (is_any _ _).mono ?_; rintro e w' ⟨rfl, rfl⟩)); go_ret; exact ⟨rfl, Grown.refl _⟩)
    · have hc := Tk.isT_tick ⟨c1, c2⟩
      have h7 := (Tk.add_inf hi hc (.inl rfl)).1
      have h8 := (Tk.add_inf hi hc (.inl rfl)).2
      by_cases ho : b + c ≤ 1099511627776
      · have h9 := (Tk.add_fits ⟨b1, b2⟩ ⟨c1, c2⟩ ho).1
        have h10 := (Tk.add_fits ⟨b1, b2⟩ ⟨c1, c2⟩ ho).2
        have ht := Tk.isT_tick (t := b + c) ⟨by omega, ho⟩
        have h11 := (Tk.add_inf hi ht (.inl rfl)).1
        have h12 := (Tk.add_inf hi ht (.inl rfl)).2
        (go_enter Try.func3, Try.ntmps3; go_wp2_with (first | (go_at_call 7; refine (lives_any _).mono ?_; rintro e w' ⟨rfl, rfl⟩) | (go_at_call 8; refine (add_any _ _ _).mono ?_; rintro e w' ⟨rfl, rfl⟩) | (go_at_call 10; refine (sub_any _ _ _).mono ?_; rintro e w' ⟨rfl, rfl⟩) | (go_at_call 9; refine (is_any _ _).mono ?_; rintro e w' ⟨rfl, rfl⟩)); go_ret; exact ⟨rfl, Grown.refl _⟩)
      · have h9 := (Tk.add_over ⟨b1, b2⟩ ⟨c1, c2⟩ (by omega)).1
        have h10 := (Tk.add_over ⟨b1, b2⟩ ⟨c1, c2⟩ (by omega)).2
        (go_enter Try.func3, Try.ntmps3; go_wp2_with (first | (go_at_call 7; refine (lives_any _).mono ?_; rintro e w' ⟨rfl, rfl⟩) | (go_at_call 8; refine (add_any _ _ _).mono ?_; rintro e w' ⟨rfl, rfl⟩) | (go_at_call 10; refine (sub_any _ _ _).mono ?_; rintro e w' ⟨rfl, rfl⟩) | (go_at_call 9; refine (is_any _ _).mono ?_; rintro e w' ⟨rfl, rfl⟩)); go_ret; exact ⟨rfl, Grown.refl _⟩)

set_option maxHeartbeats 1000000 in
/-- The first is a tick that comes, the second never comes. -/
theorem adds_inf2 (a c : Int) (w : World) (a1 : 0 ≤ a) (a2 : a ≤ 1099511627776) :
    Calls Try.prog 3 #[.int .i64 a, .int .i64 4611686018427387904, .int .i64 c] w fun e w' => e = .returned (.bool true) ∧ Grown w w' := by
  have hi := Tk.isT_inf
  have ha := Tk.isT_tick ⟨a1, a2⟩
  have hq : (a == 4611686018427387904) = false := beq_eq_false_iff_ne.2 (by omega)
  have h1 := (Tk.add_inf ha hi (.inr rfl)).1
  have h2 := (Tk.add_inf ha hi (.inr rfl)).2
  have h3 := (Tk.add_inf hi ha (.inl rfl)).1
  have h4 := (Tk.add_inf hi ha (.inl rfl)).2
  have h5 := (Tk.add_inf hi hi (.inr rfl)).1
  have h6 := (Tk.add_inf hi hi (.inr rfl)).2
  cases hc : Tk.isT c
  · have h7 := (Tk.add_bad (a := 4611686018427387904) (b := c) (.inr hc)).1
    have h8 := (Tk.add_bad (a := 4611686018427387904) (b := c) (.inr hc)).2
    (go_enter Try.func3, Try.ntmps3; go_wp2_with (first | (go_at_call 7; refine (lives_any _).mono ?_; rintro e w' ⟨rfl, rfl⟩) | (go_at_call 8; refine (add_any _ _ _).mono ?_; rintro e w' ⟨rfl, rfl⟩) | (go_at_call 10; refine (sub_any _ _ _).mono ?_; rintro e w' ⟨rfl, rfl⟩) | (go_at_call 9; refine (is_any _ _).mono ?_; rintro e w' ⟨rfl, rfl⟩)); go_ret; exact ⟨rfl, Grown.refl _⟩)
  · have h7 := (Tk.add_inf hi hc (.inl rfl)).1
    have h8 := (Tk.add_inf hi hc (.inl rfl)).2
    (go_enter Try.func3, Try.ntmps3; go_wp2_with (first | (go_at_call 7; refine (lives_any _).mono ?_; rintro e w' ⟨rfl, rfl⟩) | (go_at_call 8; refine (add_any _ _ _).mono ?_; rintro e w' ⟨rfl, rfl⟩) | (go_at_call 10; refine (sub_any _ _ _).mono ?_; rintro e w' ⟨rfl, rfl⟩) | (go_at_call 9; refine (is_any _ _).mono ?_; rintro e w' ⟨rfl, rfl⟩)); go_ret; exact ⟨rfl, Grown.refl _⟩)

set_option maxHeartbeats 1000000 in
/-- Both are ticks that come, and so is their sum. -/
theorem adds_fits (a b c : Int) (w : World) (a1 : 0 ≤ a) (a2 : a ≤ 1099511627776) (b1 : 0 ≤ b) (b2 : b ≤ 1099511627776) (hs : a + b ≤ 1099511627776) :
    Calls Try.prog 3 #[.int .i64 a, .int .i64 b, .int .i64 c] w fun e w' => e = .returned (.bool true) ∧ Grown w w' := by
  have hi := Tk.isT_inf
  have ha := Tk.isT_tick ⟨a1, a2⟩
  have hb := Tk.isT_tick ⟨b1, b2⟩
  have hx := Tk.isT_tick (t := a + b) ⟨by omega, hs⟩
  have hq : (a == 4611686018427387904) = false := beq_eq_false_iff_ne.2 (by omega)
  have hq' : (b == 4611686018427387904) = false := beq_eq_false_iff_ne.2 (by omega)
  have hq'' : (a + b == 4611686018427387904) = false := beq_eq_false_iff_ne.2 (by omega)
  have h1 := (Tk.add_fits ⟨a1, a2⟩ ⟨b1, b2⟩ hs).1
  have h2 := (Tk.add_fits ⟨a1, a2⟩ ⟨b1, b2⟩ hs).2
  have h3 := (Tk.add_fits ⟨b1, b2⟩ ⟨a1, a2⟩ (by omega)).1
  have h4 : Tk.addV b a = a + b := (Tk.add_fits ⟨b1, b2⟩ ⟨a1, a2⟩ (by omega)).2.trans (Int.add_comm _ _)
  have h5 := (Tk.sub_fits (a := a + b) (b := b) ⟨by omega, hs⟩ ⟨b1, b2⟩ (by omega)).1
  have h6 : Tk.subV (a + b) b = a := (Tk.sub_fits (a := a + b) (b := b) ⟨by omega, hs⟩ ⟨b1, b2⟩ (by omega)).2.trans (by omega)
  rcases Tk.kinds c with ⟨hc, _, _⟩ | rfl | ⟨c1, c2⟩
  · have h7 := (Tk.add_bad (a := a + b) (b := c) (.inr hc)).1
    have h8 := (Tk.add_bad (a := a + b) (b := c) (.inr hc)).2
    have h9 := (Tk.add_bad (a := b) (b := c) (.inr hc)).1
    have h10 := (Tk.add_bad (a := b) (b := c) (.inr hc)).2
    (go_enter Try.func3, Try.ntmps3; go_wp2_with (first | (go_at_call 7; refine (lives_any _).mono ?_; rintro e w' ⟨rfl, rfl⟩) | (go_at_call 8; refine (add_any _ _ _).mono ?_; rintro e w' ⟨rfl, rfl⟩) | (go_at_call 10; refine (sub_any _ _ _).mono ?_; rintro e w' ⟨rfl, rfl⟩) | (go_at_call 9; refine (is_any _ _).mono ?_; rintro e w' ⟨rfl, rfl⟩)); go_ret; exact ⟨rfl, Grown.refl _⟩)
  · have h7 := (Tk.add_inf hx hi (.inr rfl)).1
    have h8 := (Tk.add_inf hx hi (.inr rfl)).2
    have h9 := (Tk.add_inf hb hi (.inr rfl)).1
    have h10 := (Tk.add_inf hb hi (.inr rfl)).2
    have h11 := (Tk.add_inf ha hi (.inr rfl)).1
    have h12 := (Tk.add_inf ha hi (.inr rfl)).2
    (go_enter Try.func3, Try.ntmps3; go_wp2_with (first | (go_at_call 7; refine (lives_any _).mono ?_; rintro e w' ⟨rfl, rfl⟩) | (go_at_call 8; refine (add_any _ _ _).mono ?_; rintro e w' ⟨rfl, rfl⟩) | (go_at_call 10; refine (sub_any _ _ _).mono ?_; rintro e w' ⟨rfl, rfl⟩) | (go_at_call 9; refine (is_any _ _).mono ?_; rintro e w' ⟨rfl, rfl⟩)); go_ret; exact ⟨rfl, Grown.refl _⟩)
  · by_cases ho : b + c ≤ 1099511627776
    · have h9 := (Tk.add_fits ⟨b1, b2⟩ ⟨c1, c2⟩ ho).1
      have h10 := (Tk.add_fits ⟨b1, b2⟩ ⟨c1, c2⟩ ho).2
      by_cases hp : a + b + c ≤ 1099511627776
      · have h7 := (Tk.add_fits (a := a + b) ⟨by omega, hs⟩ ⟨c1, c2⟩ hp).1
        have h8 := (Tk.add_fits (a := a + b) ⟨by omega, hs⟩ ⟨c1, c2⟩ hp).2
        have h11 := (Tk.add_fits (b := b + c) ⟨a1, a2⟩ ⟨by omega, ho⟩ (by omega)).1
        have h12 : Tk.addV a (b + c) = a + b + c := (Tk.add_fits (b := b + c) ⟨a1, a2⟩ ⟨by omega, ho⟩ (by omega)).2.trans (by omega)
        (go_enter Try.func3, Try.ntmps3; go_wp2_with (first | (go_at_call 7; refine (lives_any _).mono ?_; rintro e w' ⟨rfl, rfl⟩) | (go_at_call 8; refine (add_any _ _ _).mono ?_; rintro e w' ⟨rfl, rfl⟩) | (go_at_call 10; refine (sub_any _ _ _).mono ?_; rintro e w' ⟨rfl, rfl⟩) | (go_at_call 9; refine (is_any _ _).mono ?_; rintro e w' ⟨rfl, rfl⟩)); go_ret; exact ⟨rfl, Grown.refl _⟩)
      · have h7 := (Tk.add_over (a := a + b) ⟨by omega, hs⟩ ⟨c1, c2⟩ (by omega)).1
        have h8 := (Tk.add_over (a := a + b) ⟨by omega, hs⟩ ⟨c1, c2⟩ (by omega)).2
        have h11 := (Tk.add_over (b := b + c) ⟨a1, a2⟩ ⟨by omega, ho⟩ (by omega)).1
        have h12 := (Tk.add_over (b := b + c) ⟨a1, a2⟩ ⟨by omega, ho⟩ (by omega)).2
        (go_enter Try.func3, Try.ntmps3; go_wp2_with (first | (go_at_call 7; refine (lives_any _).mono ?_; rintro e w' ⟨rfl, rfl⟩) | (go_at_call 8; refine (add_any _ _ _).mono ?_; rintro e w' ⟨rfl, rfl⟩) | (go_at_call 10; refine (sub_any _ _ _).mono ?_; rintro e w' ⟨rfl, rfl⟩) | (go_at_call 9; refine (is_any _ _).mono ?_; rintro e w' ⟨rfl, rfl⟩)); go_ret; exact ⟨rfl, Grown.refl _⟩)
    · have h9 := (Tk.add_over ⟨b1, b2⟩ ⟨c1, c2⟩ (by omega)).1
      have h10 := (Tk.add_over ⟨b1, b2⟩ ⟨c1, c2⟩ (by omega)).2
      have h7 := (Tk.add_over (a := a + b) ⟨by omega, hs⟩ ⟨c1, c2⟩ (by omega)).1
      have h8 := (Tk.add_over (a := a + b) ⟨by omega, hs⟩ ⟨c1, c2⟩ (by omega)).2
      (go_enter Try.func3, Try.ntmps3; go_wp2_with (first | (go_at_call 7; refine (lives_any _).mono ?_; rintro e w' ⟨rfl, rfl⟩) | (go_at_call 8; refine (add_any _ _ _).mono ?_; rintro e w' ⟨rfl, rfl⟩) | (go_at_call 10; refine (sub_any _ _ _).mono ?_; rintro e w' ⟨rfl, rfl⟩) | (go_at_call 9; refine (is_any _ _).mono ?_; rintro e w' ⟨rfl, rfl⟩)); go_ret; exact ⟨rfl, Grown.refl _⟩)

theorem adds_any (a b c : Int) (w : World) :
    Calls Try.prog 3 #[.int .i64 a, .int .i64 b, .int .i64 c] w fun e w' => e = .returned (.bool true) ∧ Grown w w' := by
  rcases Tk.kinds a with ⟨h, _, _⟩ | rfl | ⟨a1, a2⟩
  · exact adds_no a b c w (.inl h)
  · rcases Tk.kinds b with ⟨h, _, _⟩ | rfl | hb
    · exact adds_no _ b c w (.inr (.inl h))
    · exact adds_inf1 _ c w Tk.isT_inf
    · exact adds_inf1 b c w (Tk.isT_tick hb)
  · rcases Tk.kinds b with ⟨h, _, _⟩ | rfl | ⟨b1, b2⟩
    · exact adds_no a b c w (.inr (.inl h))
    · exact adds_inf2 a c w a1 a2
    · by_cases hs : a + b ≤ 1099511627776
      · exact adds_fits a b c w a1 a2 b1 b2 hs
      · exact adds_no a b c w (.inr (.inr ⟨⟨a1, a2⟩, ⟨b1, b2⟩, by omega⟩))

end Go.Proofs.Ytihlnciknnddkaa
