/- The walks of tick.Mul, tick.At, tick.Count: each returns what its plain function (Tk) says, and leaves the world as it was. -/
import Derived.Test.YtihlnciknnddkaaDoorTw
import Derived.Lib.Hide
namespace Go.Proofs.YtihlnciknnddkaaDoor
open Go.RowKit

theorem ret_int {k : IntKind} {a b : Int} (h : a = b) : Ending.returned (.int k a) = .returned (.int k b) := by rw [h]
theorem ret_int2 {k l : IntKind} {a b c d : Int} (h : a = b) (g : c = d) : Ending.returned (.tuple #[.int k a, .int l c]) = .returned (.tuple #[.int k b, .int l d]) := by rw [h, g]
theorem ret_bool {a b : Bool} (h : a = b) : Ending.returned (.bool a) = .returned (.bool b) := by rw [h]

set_option maxHeartbeats 400000 in
theorem mul_any (a n : Int) (w : World) :
    Calls Tryd.prog 11 #[.int .i64 a, .int .i64 n] w fun e w' => e = .returned (.tuple #[.int .i64 (Tk.mulV a n), .int .i64 (Tk.mulE a n)]) ∧ w = w' := by
  by_cases hn : n < 0
  · rw [(Tk.mul_no (.inr hn)).1, (Tk.mul_no (.inr hn)).2]
    cases ha : Tk.isT a
    all_goals
      go_enter Tryd.func11, Tryd.ntmps11
      go_wp2_with (go_at_call 9; refine (is_any _ _).mono ?_; rintro e w' ⟨rfl, rfl⟩)
      go_ret2
      exact ⟨rfl, rfl⟩
  by_cases ha : Tk.isT a = false
  · rw [(Tk.mul_no (.inl ha)).1, (Tk.mul_no (.inl ha)).2]
    go_enter Tryd.func11, Tryd.ntmps11
    go_wp2_with (go_at_call 9; refine (is_any _ _).mono ?_; rintro e w' ⟨rfl, rfl⟩)
    go_ret2
    exact ⟨rfl, rfl⟩
  have ha' : Tk.isT a = true := by simpa using ha
  clear ha
  have hn' : 0 ≤ n := by omega
  clear hn
  by_cases h0 : n = 0
  · subst h0
    rw [(Tk.mul_zero' ha').1, (Tk.mul_zero' ha').2]
    clear hn'
    go_enter Tryd.func11, Tryd.ntmps11
    go_wp2_with (go_at_call 9; refine (is_any _ _).mono ?_; rintro e w' ⟨rfl, rfl⟩)
    go_ret2
    exact ⟨rfl, rfl⟩
  have hp : 0 < n := by omega
  have hz : (n == 0) = false := beq_eq_false_iff_ne.2 h0
  clear h0 hn'
  by_cases hi : a = 4611686018427387904
  · subst hi
    rw [(Tk.mul_inf hp).1, (Tk.mul_inf hp).2]
    go_enter Tryd.func11, Tryd.ntmps11
    go_wp2_with (go_at_call 9; refine (is_any _ _).mono ?_; rintro e w' ⟨rfl, rfl⟩)
    go_ret2
    exact ⟨rfl, rfl⟩
  have hta : 0 ≤ a ∧ a ≤ 1099511627776 := by rcases Tk.kinds a with ⟨h1, h2, h3⟩ | rfl | h <;> simp_all
  have hi' : (a == 4611686018427387904) = false := beq_eq_false_iff_ne.2 hi
  clear hi
  by_cases h0 : a = 0
  · subst h0
    rw [(Tk.mul_fits hta (by omega) (by omega)).1, (Tk.mul_fits hta (by omega) (by omega)).2, Int.zero_mul]
    clear hta
    go_enter Tryd.func11, Tryd.ntmps11
    go_wp2_with (go_at_call 9; refine (is_any _ _).mono ?_; rintro e w' ⟨rfl, rfl⟩)
    go_ret2
    exact ⟨rfl, rfl⟩
  have hz' : (a == 0) = false := beq_eq_false_iff_ne.2 h0
  have ht := Tk.mul_test (a := a) (n := n) (by omega)
  by_cases hs : 1099511627776 < a * n
  · rw [(Tk.mul_over hta hp hs).1, (Tk.mul_over hta hp hs).2]
    have hd : decide (1099511627776 / a < n) = true := decide_eq_true (ht.2 hs)
    obtain ⟨a1, a2⟩ := hta
    have a3 : 1 ≤ a := by omega
    clear ht hs h0
    go_enter Tryd.func11, Tryd.ntmps11
    go_wp2_with (go_at_call 9; refine (is_any _ _).mono ?_; rintro e w' ⟨rfl, rfl⟩)
    go_ret2
    exact ⟨rfl, rfl⟩
  · rw [(Tk.mul_fits hta (by omega) (by omega)).1, (Tk.mul_fits hta (by omega) (by omega)).2]
    have hd : decide (1099511627776 / a < n) = false := decide_eq_false (fun h => hs (ht.1 h))
    have hw : wrap64 (a * n) = a * n := IntWalk.wrap64_in _ ⟨by have := Int.mul_nonneg hta.1 (Int.le_of_lt hp); omega, by omega⟩
    obtain ⟨a1, a2⟩ := hta
    have a3 : 1 ≤ a := by omega
    clear ht hs h0
    have Hw := Lib.hid hw
    clear hw
    go_enter Tryd.func11, Tryd.ntmps11
    go_wp2_with (go_at_call 9; refine (is_any _ _).mono ?_; rintro e w' ⟨rfl, rfl⟩)
    go_ret2
    exact ⟨ret_int2 Hw.out rfl, rfl⟩

set_option maxHeartbeats 400000 in
theorem at_any (f e i : Int) (w : World) :
    Calls Tryd.prog 12 #[.int .i64 f, .int .i64 e, .int .i64 i] w fun r w' => r = .returned (.tuple #[.int .i64 (Tk.atV f e i), .int .i64 (Tk.atE f e i)]) ∧ w = w' := by
  rcases Tk.chk_cases f with ⟨f1, f2, hf⟩ | ⟨_, hf⟩
  rotate_left
  · rw [(Tk.at_no (.inl hf)).1, (Tk.at_no (.inl hf)).2]
    go_enter Tryd.func12, Tryd.ntmps12
    go_wp2_with (go_at_call 13; refine (check_any _ _).mono ?_; rintro e w' ⟨rfl, rfl⟩)
    go_ret2
    exact ⟨rfl, rfl⟩
  rcases Tk.chk_cases e with ⟨e1, e2, he⟩ | ⟨_, he⟩
  rotate_left
  · rw [(Tk.at_no (.inr (.inl he))).1, (Tk.at_no (.inr (.inl he))).2]
    go_enter Tryd.func12, Tryd.ntmps12
    go_wp2_with (go_at_call 13; refine (check_any _ _).mono ?_; rintro e w' ⟨rfl, rfl⟩)
    go_ret2
    exact ⟨rfl, rfl⟩
  by_cases hi : i < 0
  · rw [(Tk.at_no (.inr (.inr (.inl hi)))).1, (Tk.at_no (.inr (.inr (.inl hi)))).2]
    go_enter Tryd.func12, Tryd.ntmps12
    go_wp2_with (go_at_call 13; refine (check_any _ _).mono ?_; rintro e w' ⟨rfl, rfl⟩)
    go_ret2
    exact ⟨rfl, rfl⟩
  by_cases hz : e = 0 ∧ 0 < i
  · obtain ⟨rfl, hz⟩ := hz
    rw [(Tk.at_no (.inr (.inr (.inr ⟨rfl, hz⟩)))).1, (Tk.at_no (.inr (.inr (.inr ⟨rfl, hz⟩)))).2]
    clear e1 e2
    go_enter Tryd.func12, Tryd.ntmps12
    go_wp2_with (go_at_call 13; refine (check_any _ _).mono ?_; rintro e w' ⟨rfl, rfl⟩)
    go_ret2
    exact ⟨rfl, rfl⟩
  have hi' : 0 ≤ i := by omega
  have hz' : e = 0 → i ≤ 0 := by omega
  have hq : (e == 0 && decide (0 < i)) = false := by
    by_cases h0 : e = 0
    · have := hz' h0
      rw [decide_eq_false (by omega), Bool.and_false]
    · rw [beq_eq_false_iff_ne.2 h0, Bool.false_and]
  have hpn : 0 ≤ e * i := Int.mul_nonneg e1 hi'
  by_cases hp : 1099511627776 < e * i
  · rw [(Tk.at_over (f := f) (e := e) (i := i) (by omega)).1, (Tk.at_over (f := f) (e := e) (i := i) (by omega)).2]
    have hm : Tk.mulE e i = 9 := (Tk.mul_over ⟨e1, e2⟩ (by by_cases h : i = 0; (· rw [h, Int.mul_zero] at hp; omega); (· omega)) hp).1
    have hm' : Tk.mulV e i = 0 := (Tk.mul_over ⟨e1, e2⟩ (by by_cases h : i = 0; (· rw [h, Int.mul_zero] at hp; omega); (· omega)) hp).2
    clear hp hpn hz hz'
    by_cases h0 : e = 0
    · have h0' : (e == 0) = true := beq_iff_eq.2 h0
      have h1' : decide (0 < i) = false := by simpa [h0'] using hq
      clear h0 hq
      go_enter Tryd.func12, Tryd.ntmps12
      go_wp2_with (first | (go_at_call 13; refine (check_any _ _).mono ?_; rintro e w' ⟨rfl, rfl⟩) | (go_at_call 11; refine (mul_any _ _ _).mono ?_; rintro e w' ⟨rfl, rfl⟩))
      go_ret2
      exact ⟨rfl, rfl⟩
    · have h0' : (e == 0) = false := beq_eq_false_iff_ne.2 h0
      clear h0 hq
      go_enter Tryd.func12, Tryd.ntmps12
      go_wp2_with (first | (go_at_call 13; refine (check_any _ _).mono ?_; rintro e w' ⟨rfl, rfl⟩) | (go_at_call 11; refine (mul_any _ _ _).mono ?_; rintro e w' ⟨rfl, rfl⟩))
      go_ret2
      exact ⟨rfl, rfl⟩
  have hm : Tk.mulE e i = 0 := (Tk.mul_fits ⟨e1, e2⟩ hi' (by omega)).1
  have hm' : Tk.mulV e i = e * i := (Tk.mul_fits ⟨e1, e2⟩ hi' (by omega)).2
  have hfin : (Tk.atE f e i = Tk.addE f (e * i)) ∧ (Tk.atV f e i = Tk.addV f (e * i)) := by
    by_cases hs : f + e * i ≤ 1099511627776
    · rw [(Tk.at_ok hf he hi' hz' hs).1, (Tk.at_ok hf he hi' hz' hs).2, (Tk.add_fits ⟨f1, f2⟩ ⟨hpn, by omega⟩ hs).1, (Tk.add_fits ⟨f1, f2⟩ ⟨hpn, by omega⟩ hs).2]
      exact ⟨rfl, rfl⟩
    · rw [(Tk.at_over (f := f) (e := e) (i := i) (by omega)).1, (Tk.at_over (f := f) (e := e) (i := i) (by omega)).2, (Tk.add_over ⟨f1, f2⟩ ⟨hpn, by omega⟩ (by omega)).1, (Tk.add_over ⟨f1, f2⟩ ⟨hpn, by omega⟩ (by omega)).2]
      exact ⟨rfl, rfl⟩
  rw [hfin.1, hfin.2]
  clear hfin
  generalize e * i = p at *
  clear hp hpn hz hz'
  by_cases h0 : e = 0
  · have h0' : (e == 0) = true := beq_iff_eq.2 h0
    have h1' : decide (0 < i) = false := by simpa [h0'] using hq
    clear h0 hq
    go_enter Tryd.func12, Tryd.ntmps12
    go_wp2_with (first | (go_at_call 13; refine (check_any _ _).mono ?_; rintro e w' ⟨rfl, rfl⟩) | (go_at_call 11; refine (mul_any _ _ _).mono ?_; rintro e w' ⟨rfl, rfl⟩) | (go_at_call 14; refine (add_any _ _ _).mono ?_; rintro e w' ⟨rfl, rfl⟩))
    go_ret2
    exact ⟨rfl, rfl⟩
  · have h0' : (e == 0) = false := beq_eq_false_iff_ne.2 h0
    clear h0 hq
    go_enter Tryd.func12, Tryd.ntmps12
    go_wp2_with (first | (go_at_call 13; refine (check_any _ _).mono ?_; rintro e w' ⟨rfl, rfl⟩) | (go_at_call 11; refine (mul_any _ _ _).mono ?_; rintro e w' ⟨rfl, rfl⟩) | (go_at_call 14; refine (add_any _ _ _).mono ?_; rintro e w' ⟨rfl, rfl⟩))
    go_ret2
    exact ⟨rfl, rfl⟩

set_option maxHeartbeats 400000 in
theorem count_any (f e u : Int) (w : World) :
    Calls Tryd.prog 22 #[.int .i64 f, .int .i64 e, .int .i64 u] w fun r w' => r = .returned (.int .i64 (Tk.cnt f e u)) ∧ w = w' := by
  rcases Tk.chk_cases f with ⟨f1, f2, hf⟩ | ⟨_, hf⟩
  rotate_left
  · rw [Tk.cnt_no (.inl hf)]
    go_enter Tryd.func22, Tryd.ntmps22
    go_wp2_with (go_at_call 13; refine (check_any _ _).mono ?_; rintro e w' ⟨rfl, rfl⟩)
    go_ret
    exact ⟨rfl, rfl⟩
  rcases Tk.chk_cases e with ⟨e1, e2, he⟩ | ⟨_, he⟩
  rotate_left
  · rw [Tk.cnt_no (.inr (.inl he))]
    go_enter Tryd.func22, Tryd.ntmps22
    go_wp2_with (go_at_call 13; refine (check_any _ _).mono ?_; rintro e w' ⟨rfl, rfl⟩)
    go_ret
    exact ⟨rfl, rfl⟩
  rcases Tk.chk_cases u with ⟨u1, u2, hu⟩ | ⟨_, hu⟩
  rotate_left
  · rw [Tk.cnt_no (.inr (.inr (.inl hu)))]
    go_enter Tryd.func22, Tryd.ntmps22
    go_wp2_with (go_at_call 13; refine (check_any _ _).mono ?_; rintro e w' ⟨rfl, rfl⟩)
    go_ret
    exact ⟨rfl, rfl⟩
  by_cases hg : u < f
  · rw [Tk.cnt_no (.inr (.inr (.inr hg)))]
    go_enter Tryd.func22, Tryd.ntmps22
    go_wp2_with (go_at_call 13; refine (check_any _ _).mono ?_; rintro e w' ⟨rfl, rfl⟩)
    go_ret
    exact ⟨rfl, rfl⟩
  have hg' : f ≤ u := by omega
  clear hg
  by_cases h0 : e = 0
  · subst h0
    rw [Tk.cnt_one hf he hu hg']
    go_enter Tryd.func22, Tryd.ntmps22
    go_wp2_with (go_at_call 13; refine (check_any _ _).mono ?_; rintro e w' ⟨rfl, rfl⟩)
    go_ret
    exact ⟨rfl, rfl⟩
  · rw [Tk.cnt_of hf he hu hg' h0]
    have h0' : (e == 0) = false := beq_eq_false_iff_ne.2 h0
    have e3 : 1 ≤ e := by omega
    have hb : (u - f) / e ≤ 1099511627776 := Int.le_trans (Int.ediv_le_self _ (by omega)) (by omega)
    have hb' : 0 ≤ (u - f) / e := Int.ediv_nonneg (by omega) (by omega)
    clear h0
    go_enter Tryd.func22, Tryd.ntmps22
    go_wp2_with (go_at_call 13; refine (check_any _ _).mono ?_; rintro e w' ⟨rfl, rfl⟩)
    go_ret
    exact ⟨rfl, rfl⟩

end Go.Proofs.YtihlnciknnddkaaDoor
