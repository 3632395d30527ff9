/- The walk of the statement TickRows. -/
import Derived.Test.YtihlnciknnddkaaLv
namespace Go.Proofs.Ytihlnciknnddkaa
open Go.RowKit
set_option maxHeartbeats 1000000 in
theorem rows_any (f e u i : Int) (w : World) :
    Calls Try.prog 5 #[.int .i64 f, .int .i64 e, .int .i64 u, .int .i64 i] w fun r w' => r = .returned (.bool true) ∧ Grown w w' := by
  rcases Tk.chk_cases f with ⟨f1, f2, hf⟩ | ⟨_, hf⟩
  rotate_left
  · have hc := Tk.cnt_no (f := f) (e := e) (u := u) (.inl hf)
    (go_enter Try.func5, Try.ntmps5; go_wp2_with (first | (go_at_call 7; refine (lives_any _).mono ?_; rintro e w' ⟨rfl, rfl⟩) | (go_at_call 11; refine (count_any _ _ _ _).mono ?_; rintro e w' ⟨rfl, rfl⟩) | (go_at_call 12; refine (check_any _ _).mono ?_; rintro e w' ⟨rfl, rfl⟩) | (go_at_call 13; refine (at_any _ _ _ _).mono ?_; rintro e w' ⟨rfl, rfl⟩)); go_ret; exact ⟨rfl, Grown.refl _⟩)
  rcases Tk.chk_cases e with ⟨e1, e2, he⟩ | ⟨_, he⟩
  rotate_left
  · have hc := Tk.cnt_no (f := f) (e := e) (u := u) (.inr (.inl he))
    (go_enter Try.func5, Try.ntmps5; go_wp2_with (first | (go_at_call 7; refine (lives_any _).mono ?_; rintro e w' ⟨rfl, rfl⟩) | (go_at_call 11; refine (count_any _ _ _ _).mono ?_; rintro e w' ⟨rfl, rfl⟩) | (go_at_call 12; refine (check_any _ _).mono ?_; rintro e w' ⟨rfl, rfl⟩) | (go_at_call 13; refine (at_any _ _ _ _).mono ?_; rintro e w' ⟨rfl, rfl⟩)); go_ret; exact ⟨rfl, Grown.refl _⟩)
  rcases Tk.chk_cases u with ⟨u1, u2, hu⟩ | ⟨_, hu⟩
  rotate_left
  · have hc := Tk.cnt_no (f := f) (e := e) (u := u) (.inr (.inr (.inl hu)))
    (go_enter Try.func5, Try.ntmps5; go_wp2_with (first | (go_at_call 7; refine (lives_any _).mono ?_; rintro e w' ⟨rfl, rfl⟩) | (go_at_call 11; refine (count_any _ _ _ _).mono ?_; rintro e w' ⟨rfl, rfl⟩) | (go_at_call 12; refine (check_any _ _).mono ?_; rintro e w' ⟨rfl, rfl⟩) | (go_at_call 13; refine (at_any _ _ _ _).mono ?_; rintro e w' ⟨rfl, rfl⟩)); go_ret; exact ⟨rfl, Grown.refl _⟩)
  by_cases hn : i < 0
  · have ha := (Tk.at_no (f := f) (e := e) (i := i) (.inr (.inr (.inl hn)))).1
    have hc := Tk.cnt_nonneg (f := f) (e := e) (u := u)
    have hd : decide (0 ≤ Tk.cnt f e u) = true := decide_eq_true hc
    (go_enter Try.func5, Try.ntmps5; go_wp2_with (first | (go_at_call 7; refine (lives_any _).mono ?_; rintro e w' ⟨rfl, rfl⟩) | (go_at_call 11; refine (count_any _ _ _ _).mono ?_; rintro e w' ⟨rfl, rfl⟩) | (go_at_call 12; refine (check_any _ _).mono ?_; rintro e w' ⟨rfl, rfl⟩) | (go_at_call 13; refine (at_any _ _ _ _).mono ?_; rintro e w' ⟨rfl, rfl⟩)); go_ret; exact ⟨rfl, Grown.refl _⟩)
  have hi : 0 ≤ i := by omega
  clear hn
  by_cases hz : e = 0
  · subst hz
    by_cases hp : 0 < i
    · have ha := (Tk.at_no (f := f) (e := 0) (i := i) (.inr (.inr (.inr ⟨rfl, hp⟩)))).1
      have hc := Tk.cnt_nonneg (f := f) (e := 0) (u := u)
      have hd : decide (0 ≤ Tk.cnt f 0 u) = true := decide_eq_true hc
      clear e1 e2
      (go_enter Try.func5, Try.ntmps5; go_wp2_with (first | (go_at_call 7; refine (lives_any _).mono ?_; rintro e w' ⟨rfl, rfl⟩) | (go_at_call 11; refine (count_any _ _ _ _).mono ?_; rintro e w' ⟨rfl, rfl⟩) | (go_at_call 12; refine (check_any _ _).mono ?_; rintro e w' ⟨rfl, rfl⟩) | (go_at_call 13; refine (at_any _ _ _ _).mono ?_; rintro e w' ⟨rfl, rfl⟩)); go_ret; exact ⟨rfl, Grown.refl _⟩)
    obtain rfl : i = 0 := by omega
    have ha := (Tk.at_ok (f := f) (e := 0) (i := 0) hf he (by omega) (by omega) (by omega)).1
    have ha' : Tk.atV f 0 0 = f := (Tk.at_ok (f := f) (e := 0) (i := 0) hf he (by omega) (by omega) (by omega)).2.trans (by omega)
    clear e1 e2 hp hi
    by_cases hg : f ≤ u
    · have hc := Tk.cnt_one (f := f) (u := u) hf he hu hg
      (go_enter Try.func5, Try.ntmps5; go_wp2_with (first | (go_at_call 7; refine (lives_any _).mono ?_; rintro e w' ⟨rfl, rfl⟩) | (go_at_call 11; refine (count_any _ _ _ _).mono ?_; rintro e w' ⟨rfl, rfl⟩) | (go_at_call 12; refine (check_any _ _).mono ?_; rintro e w' ⟨rfl, rfl⟩) | (go_at_call 13; refine (at_any _ _ _ _).mono ?_; rintro e w' ⟨rfl, rfl⟩)); go_ret; exact ⟨rfl, Grown.refl _⟩)
    · have hg' : u < f := by omega
      have hd : decide (f ≤ u) = false := decide_eq_false (by omega)
      have hc := Tk.cnt_no (f := f) (e := 0) (u := u) (.inr (.inr (.inr hg')))
      clear hg
      (go_enter Try.func5, Try.ntmps5; go_wp2_with (first | (go_at_call 7; refine (lives_any _).mono ?_; rintro e w' ⟨rfl, rfl⟩) | (go_at_call 11; refine (count_any _ _ _ _).mono ?_; rintro e w' ⟨rfl, rfl⟩) | (go_at_call 12; refine (check_any _ _).mono ?_; rintro e w' ⟨rfl, rfl⟩) | (go_at_call 13; refine (at_any _ _ _ _).mono ?_; rintro e w' ⟨rfl, rfl⟩)); go_ret; exact ⟨rfl, Grown.refl _⟩)
  have hz' : (e == 0) = false := beq_eq_false_iff_ne.2 hz
  have e3 : 0 < e := by omega
  have hpn : 0 ≤ e * i := Int.mul_nonneg e1 hi
  have hcmp : Tk.cnt f e u ≤ i ↔ u < f + e * i := Tk.cnt_le hf he hu e3 hi
  by_cases ho : 1099511627776 < f + e * i
  · have ha := (Tk.at_over (f := f) (e := e) (i := i) ho).1
    have hd : decide (Tk.cnt f e u ≤ i) = true := decide_eq_true (hcmp.2 (by omega))
    clear hcmp hz
    (go_enter Try.func5, Try.ntmps5; go_wp2_with (first | (go_at_call 7; refine (lives_any _).mono ?_; rintro e w' ⟨rfl, rfl⟩) | (go_at_call 11; refine (count_any _ _ _ _).mono ?_; rintro e w' ⟨rfl, rfl⟩) | (go_at_call 12; refine (check_any _ _).mono ?_; rintro e w' ⟨rfl, rfl⟩) | (go_at_call 13; refine (at_any _ _ _ _).mono ?_; rintro e w' ⟨rfl, rfl⟩)); go_ret; exact ⟨rfl, Grown.refl _⟩)
  have ha := (Tk.at_ok (f := f) (e := e) (i := i) hf he hi (fun h => absurd h hz) (by omega)).1
  have ha' := (Tk.at_ok (f := f) (e := e) (i := i) hf he hi (fun h => absurd h hz) (by omega)).2
  have hm : (e * i) % e = 0 := Int.mul_emod_right _ _
  have hv : (e * i) / e = i := Int.mul_ediv_cancel_left _ hz
  clear hz
  generalize e * i = p at *
  have hm' : ((f + p - f) % e == 0) = true := by rw [show f + p - f = p from by omega, hm]; rfl
  have hv' : ((f + p - f) / e == i) = true := by rw [show f + p - f = p from by omega, hv]; exact beq_self_eq_true _
  have ho' : f + p ≤ 1099511627776 := by omega
  clear hm hv ho
  by_cases hx : f + p ≤ u
  · have hd1 : decide (i < Tk.cnt f e u) = true := decide_eq_true (by omega)
    have hd2 : decide (f + p ≤ u) = true := decide_eq_true hx
    have e4 : 1 ≤ e := by omega
    clear hcmp
    (go_enter Try.func5, Try.ntmps5; go_wp2_with (first | (go_at_call 7; refine (lives_any _).mono ?_; rintro e w' ⟨rfl, rfl⟩) | (go_at_call 11; refine (count_any _ _ _ _).mono ?_; rintro e w' ⟨rfl, rfl⟩) | (go_at_call 12; refine (check_any _ _).mono ?_; rintro e w' ⟨rfl, rfl⟩) | (go_at_call 13; refine (at_any _ _ _ _).mono ?_; rintro e w' ⟨rfl, rfl⟩)); go_ret; exact ⟨rfl, Grown.refl _⟩)
  · have hd1 : decide (i < Tk.cnt f e u) = false := decide_eq_false (by omega)
    have hd2 : decide (f + p ≤ u) = false := decide_eq_false hx
    have e4 : 1 ≤ e := by omega
    clear hcmp hx
    (go_enter Try.func5, Try.ntmps5; go_wp2_with (first | (go_at_call 7; refine (lives_any _).mono ?_; rintro e w' ⟨rfl, rfl⟩) | (go_at_call 11; refine (count_any _ _ _ _).mono ?_; rintro e w' ⟨rfl, rfl⟩) | (go_at_call 12; refine (check_any _ _).mono ?_; rintro e w' ⟨rfl, rfl⟩) | (go_at_call 13; refine (at_any _ _ _ _).mono ?_; rintro e w' ⟨rfl, rfl⟩)); go_ret; exact ⟨rfl, Grown.refl _⟩)

end Go.Proofs.Ytihlnciknnddkaa
