/- The walk of the statement TickSubs. -/
import Derived.Test.YtihlnciknnddkaaLv
namespace Go.Proofs.Ytihlnciknnddkaa
open Go.RowKit
set_option maxHeartbeats 1000000 in
theorem subs_any (a b : Int) (w : World) :
    Calls Try.prog 4 #[.int .i64 a, .int .i64 b] w fun e w' => e = .returned (.bool true) ∧ Grown w w' := by
  have hi := Tk.isT_inf
  rcases Tk.kinds a with ⟨ha, _, _⟩ | rfl | ⟨a1, a2⟩
  · have h1 := (Tk.sub_no (a := a) (b := b) (.inl ha)).1
    have h2 := (Tk.sub_no (a := b) (b := a) (.inr (.inl ha))).1
    (go_enter Try.func4, Try.ntmps4; go_wp2_with (first | (go_at_call 7; refine (lives_any _).mono ?_; rintro e w' ⟨rfl, rfl⟩) | (go_at_call 8; refine (add_any _ _ _).mono ?_; rintro e w' ⟨rfl, rfl⟩) | (go_at_call 10; refine (sub_any _ _ _).mono ?_; rintro e w' ⟨rfl, rfl⟩) | (go_at_call 9; refine (is_any _ _).mono ?_; rintro e w' ⟨rfl, rfl⟩)); go_ret; exact ⟨rfl, Grown.refl _⟩)
  · rcases Tk.kinds b with ⟨hb, _, _⟩ | rfl | ⟨b1, b2⟩
    · have h1 := (Tk.sub_no (a := 4611686018427387904) (b := b) (.inr (.inl hb))).1
      have h2 := (Tk.sub_no (a := b) (b := 4611686018427387904) (.inl hb)).1
      (go_enter Try.func4, Try.ntmps4; go_wp2_with (first | (go_at_call 7; refine (lives_any _).mono ?_; rintro e w' ⟨rfl, rfl⟩) | (go_at_call 8; refine (add_any _ _ _).mono ?_; rintro e w' ⟨rfl, rfl⟩) | (go_at_call 10; refine (sub_any _ _ _).mono ?_; rintro e w' ⟨rfl, rfl⟩) | (go_at_call 9; refine (is_any _ _).mono ?_; rintro e w' ⟨rfl, rfl⟩)); go_ret; exact ⟨rfl, Grown.refl _⟩)
    · have h1 := (Tk.sub_no (a := 4611686018427387904) (b := 4611686018427387904) (.inr (.inr (.inl rfl)))).1
      (go_enter Try.func4, Try.ntmps4; go_wp2_with (first | (go_at_call 7; refine (lives_any _).mono ?_; rintro e w' ⟨rfl, rfl⟩) | (go_at_call 8; refine (add_any _ _ _).mono ?_; rintro e w' ⟨rfl, rfl⟩) | (go_at_call 10; refine (sub_any _ _ _).mono ?_; rintro e w' ⟨rfl, rfl⟩) | (go_at_call 9; refine (is_any _ _).mono ?_; rintro e w' ⟨rfl, rfl⟩)); go_ret; exact ⟨rfl, Grown.refl _⟩)
    · have h1 := (Tk.sub_inf ⟨b1, b2⟩).1
      have h2 := (Tk.sub_inf ⟨b1, b2⟩).2
      have h3 := (Tk.sub_no (a := b) (b := 4611686018427387904) (.inr (.inr (.inl rfl)))).1
      have hb := Tk.isT_tick ⟨b1, b2⟩
      have hq : (b == 4611686018427387904) = false := beq_eq_false_iff_ne.2 (by omega)
      have h4 := (Tk.add_inf hi hb (.inl rfl)).1
      have h5 := (Tk.add_inf hi hb (.inl rfl)).2
      (go_enter Try.func4, Try.ntmps4; go_wp2_with (first | (go_at_call 7; refine (lives_any _).mono ?_; rintro e w' ⟨rfl, rfl⟩) | (go_at_call 8; refine (add_any _ _ _).mono ?_; rintro e w' ⟨rfl, rfl⟩) | (go_at_call 10; refine (sub_any _ _ _).mono ?_; rintro e w' ⟨rfl, rfl⟩) | (go_at_call 9; refine (is_any _ _).mono ?_; rintro e w' ⟨rfl, rfl⟩)); go_ret; exact ⟨rfl, Grown.refl _⟩)
  · have ha := Tk.isT_tick ⟨a1, a2⟩
    have la : decide (a < 4611686018427387904) = true := decide_eq_true (by omega)
    have la' : decide (a ≤ 4611686018427387904) = true := decide_eq_true (by omega)
    have hp : (a == 4611686018427387904) = false := beq_eq_false_iff_ne.2 (by omega)
    rcases Tk.kinds b with ⟨hb, _, _⟩ | rfl | ⟨b1, b2⟩
    · have h1 := (Tk.sub_no (a := a) (b := b) (.inr (.inl hb))).1
      have h2 := (Tk.sub_no (a := b) (b := a) (.inl hb)).1
      (go_enter Try.func4, Try.ntmps4; go_wp2_with (first | (go_at_call 7; refine (lives_any _).mono ?_; rintro e w' ⟨rfl, rfl⟩) | (go_at_call 8; refine (add_any _ _ _).mono ?_; rintro e w' ⟨rfl, rfl⟩) | (go_at_call 10; refine (sub_any _ _ _).mono ?_; rintro e w' ⟨rfl, rfl⟩) | (go_at_call 9; refine (is_any _ _).mono ?_; rintro e w' ⟨rfl, rfl⟩)); go_ret; exact ⟨rfl, Grown.refl _⟩)
    · have h1 := (Tk.sub_inf ⟨a1, a2⟩).1
      have h2 := (Tk.sub_inf ⟨a1, a2⟩).2
      have h3 := (Tk.sub_no (a := a) (b := 4611686018427387904) (.inr (.inr (.inl rfl)))).1
      have h4 := (Tk.add_inf hi ha (.inl rfl)).1
      have h5 := (Tk.add_inf hi ha (.inl rfl)).2
      (go_enter Try.func4, Try.ntmps4; go_wp2_with (first | (go_at_call 7; refine (lives_any _).mono ?_; rintro e w' ⟨rfl, rfl⟩) | (go_at_call 8; refine (add_any _ _ _).mono ?_; rintro e w' ⟨rfl, rfl⟩) | (go_at_call 10; refine (sub_any _ _ _).mono ?_; rintro e w' ⟨rfl, rfl⟩) | (go_at_call 9; refine (is_any _ _).mono ?_; rintro e w' ⟨rfl, rfl⟩)); go_ret; exact ⟨rfl, Grown.refl _⟩)
    · have hb := Tk.isT_tick ⟨b1, b2⟩
      have hq : (b == 4611686018427387904) = false := beq_eq_false_iff_ne.2 (by omega)
      have lb : decide (b < 4611686018427387904) = true := decide_eq_true (by omega)
      have lb' : decide (b ≤ 4611686018427387904) = true := decide_eq_true (by omega)
      rcases Int.lt_trichotomy a b with hlt | rfl | hlt
      · have d1 : decide (a ≤ b) = true := decide_eq_true (by omega)
        have d2 : decide (b ≤ a) = false := decide_eq_false (by omega)
        have h1 := (Tk.sub_no (a := a) (b := b) (.inr (.inr (.inr hlt)))).1
        have h2 := (Tk.sub_fits ⟨b1, b2⟩ ⟨a1, a2⟩ (by omega)).1
        have h3 := (Tk.sub_fits ⟨b1, b2⟩ ⟨a1, a2⟩ (by omega)).2
        have h4 := (Tk.add_fits (a := b - a) ⟨by omega, by omega⟩ ⟨a1, a2⟩ (by omega)).1
        have h5 : Tk.addV (b - a) a = b := (Tk.add_fits (a := b - a) ⟨by omega, by omega⟩ ⟨a1, a2⟩ (by omega)).2.trans (by omega)
        (go_enter Try.func4, Try.ntmps4; go_wp2_with (first | (go_at_call 7; refine (lives_any _).mono ?_; rintro e w' ⟨rfl, rfl⟩) | (go_at_call 8; refine (add_any _ _ _).mono ?_; rintro e w' ⟨rfl, rfl⟩) | (go_at_call 10; refine (sub_any _ _ _).mono ?_; rintro e w' ⟨rfl, rfl⟩) | (go_at_call 9; refine (is_any _ _).mono ?_; rintro e w' ⟨rfl, rfl⟩)); go_ret; exact ⟨rfl, Grown.refl _⟩)
      · have h2 := (Tk.sub_fits ⟨b1, b2⟩ ⟨a1, a2⟩ (by omega)).1
        have h3 : Tk.subV a a = 0 := (Tk.sub_fits ⟨b1, b2⟩ ⟨a1, a2⟩ (by omega)).2.trans (by omega)
        have h4 := (Tk.add_fits (a := 0) ⟨by omega, by omega⟩ ⟨a1, a2⟩ (by omega)).1
        have h5 : Tk.addV 0 a = a := (Tk.add_fits (a := 0) ⟨by omega, by omega⟩ ⟨a1, a2⟩ (by omega)).2.trans (by omega)
        clear b1 b2 hb hq lb lb'
        (go_enter Try.func4, Try.ntmps4; go_wp2_with (first | (go_at_call 7; refine (lives_any _).mono ?_; rintro e w' ⟨rfl, rfl⟩) | (go_at_call 8; refine (add_any _ _ _).mono ?_; rintro e w' ⟨rfl, rfl⟩) | (go_at_call 10; refine (sub_any _ _ _).mono ?_; rintro e w' ⟨rfl, rfl⟩) | (go_at_call 9; refine (is_any _ _).mono ?_; rintro e w' ⟨rfl, rfl⟩)); go_ret; exact ⟨rfl, Grown.refl _⟩)
      · have d1 : decide (a ≤ b) = false := decide_eq_false (by omega)
        have d2 : decide (b ≤ a) = true := decide_eq_true (by omega)
        have h1 := (Tk.sub_no (a := b) (b := a) (.inr (.inr (.inr hlt)))).1
        have h2 := (Tk.sub_fits ⟨a1, a2⟩ ⟨b1, b2⟩ (by omega)).1
        have h3 := (Tk.sub_fits ⟨a1, a2⟩ ⟨b1, b2⟩ (by omega)).2
        have h4 := (Tk.add_fits (a := a - b) ⟨by omega, by omega⟩ ⟨b1, b2⟩ (by omega)).1
        have h5 : Tk.addV (a - b) b = a := (Tk.add_fits (a := a - b) ⟨by omega, by omega⟩ ⟨b1, b2⟩ (by omega)).2.trans (by omega)
        (go_enter Try.func4, Try.ntmps4; go_wp2_with (first | (go_at_call 7; refine (lives_any _).mono ?_; rintro e w' ⟨rfl, rfl⟩) | (go_at_call 8; refine (add_any _ _ _).mono ?_; rintro e w' ⟨rfl, rfl⟩) | (go_at_call 10; refine (sub_any _ _ _).mono ?_; rintro e w' ⟨rfl, rfl⟩) | (go_at_call 9; refine (is_any _ _).mono ?_; rintro e w' ⟨rfl, rfl⟩)); go_ret; exact ⟨rfl, Grown.refl _⟩)

end Go.Proofs.Ytihlnciknnddkaa
