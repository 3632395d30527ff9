/- The walks of the functions of package tick that are without loops: each returns what its plain function (Tk) says, and leaves the world as it was. -/
import Derived.Test.YtihlnciknnddkaaDoorRows
import Derived.Test.YtihlnciknnddkaaDoorTk
import Derived.WalkKit
import Derived.WalkSpells
import Derived.WalkLawsBesides
namespace Go.Proofs.YtihlnciknnddkaaDoor
open Go.RowKit

set_option maxHeartbeats 400000 in
theorem within_any (a b c : Int) (w : World) :
    Calls Tryd.prog 29 #[.int .i64 a, .int .i64 b, .int .i64 c] w fun e w' => e = .returned (.bool (decide (a ≤ b ∧ b ≤ c))) ∧ w = w' := by
  go_enter Tryd.func29, Tryd.ntmps29
  go_wp2
  · have h : ¬ (a ≤ b) := by have h : b < a := by assumption
                             omega
    go_ret
    exact ⟨by simp [h], rfl⟩
  · have h : a ≤ b := by assumption
    go_ret
    exact ⟨by simp [h], rfl⟩

set_option maxHeartbeats 400000 in
theorem check_any (t : Int) (w : World) :
    Calls Tryd.prog 13 #[.int .i64 t] w fun e w' => e = .returned (.int .i64 (Tk.chk t)) ∧ w = w' := by
  by_cases h : 0 ≤ t ∧ t ≤ 1099511627776
  · have hd : decide (0 ≤ t ∧ t ≤ 1099511627776) = true := by simp [h]
    rw [Tk.chk_ok h]
    clear h
    go_enter Tryd.func13, Tryd.ntmps13
    go_wp2_with (go_at_call 29; refine (within_any _ _ _ _).mono ?_; rintro e w' ⟨rfl, rfl⟩)
    go_ret
    exact ⟨rfl, rfl⟩
  · have hd : decide (0 ≤ t ∧ t ≤ 1099511627776) = false := by simp only [decide_eq_false_iff_not]; exact h
    rw [Tk.chk_no h]
    clear h
    go_enter Tryd.func13, Tryd.ntmps13
    go_wp2_with (go_at_call 29; refine (within_any _ _ _ _).mono ?_; rintro e w' ⟨rfl, rfl⟩)
    go_ret
    exact ⟨rfl, rfl⟩

set_option maxHeartbeats 400000 in
theorem is_any (t : Int) (w : World) :
    Calls Tryd.prog 9 #[.int .i64 t] w fun e w' => e = .returned (.bool (Tk.isT t)) ∧ w = w' := by
  rcases Tk.kinds t with ⟨h1, h2, h3⟩ | rfl | h
  · rw [h1]; clear h1
    go_enter Tryd.func9, Tryd.ntmps9
    go_wp2_with (go_at_call 13; refine (check_any _ _).mono ?_; rintro e w' ⟨rfl, rfl⟩)
    go_ret
    exact ⟨rfl, rfl⟩
  · rw [Tk.isT_inf]
    go_enter Tryd.func9, Tryd.ntmps9
    go_wp2_with (go_at_call 13; refine (check_any _ _).mono ?_; rintro e w' ⟨rfl, rfl⟩)
    go_ret
    exact ⟨rfl, rfl⟩
  · have h2 := Tk.chk_ok h
    have h3 : (t == 4611686018427387904) = false := beq_eq_false_iff_ne.2 (by omega)
    rw [Tk.isT_tick h]; clear h
    go_enter Tryd.func9, Tryd.ntmps9
    go_wp2_with (go_at_call 13; refine (check_any _ _).mono ?_; rintro e w' ⟨rfl, rfl⟩)
    go_ret
    exact ⟨rfl, rfl⟩

set_option maxHeartbeats 400000 in
theorem small_any (t : Int) (w : World) :
    Calls Tryd.prog 28 #[.int .i64 t] w fun e w' => e = .returned (.tuple #[.int .i64 (if Tk.chk t = 0 then t else 0), .int .i64 (Tk.chk t)]) ∧ w = w' := by
  rcases Tk.chk_cases t with ⟨h1, h2, h3⟩ | ⟨h1, h3⟩
  all_goals
    rw [h3]
    go_enter Tryd.func28, Tryd.ntmps28
    go_wp2_with (go_at_call 13; refine (check_any _ _).mono ?_; rintro e w' ⟨rfl, rfl⟩)
    go_ret2
    exact ⟨rfl, rfl⟩

set_option maxHeartbeats 400000 in
theorem add_any (a b : Int) (w : World) :
    Calls Tryd.prog 14 #[.int .i64 a, .int .i64 b] w fun e w' => e = .returned (.tuple #[.int .i64 (Tk.addV a b), .int .i64 (Tk.addE a b)]) ∧ w = w' := by
  by_cases ha : Tk.isT a = false
  · rw [(Tk.add_bad (.inl ha)).1, (Tk.add_bad (.inl ha)).2]
    go_enter Tryd.func14, Tryd.ntmps14
    go_wp2_with (go_at_call 9; refine (is_any _ _).mono ?_; rintro e w' ⟨rfl, rfl⟩)
    go_ret2
    exact ⟨rfl, rfl⟩
  have ha' : Tk.isT a = true := by simpa using ha
  clear ha
  by_cases hb : Tk.isT b = false
  · rw [(Tk.add_bad (.inr hb)).1, (Tk.add_bad (.inr hb)).2]
    go_enter Tryd.func14, Tryd.ntmps14
    go_wp2_with (go_at_call 9; refine (is_any _ _).mono ?_; rintro e w' ⟨rfl, rfl⟩)
    go_ret2
    exact ⟨rfl, rfl⟩
  have hb' : Tk.isT b = true := by simpa using hb
  clear hb
  by_cases hi : a = 4611686018427387904 ∨ b = 4611686018427387904
  · rw [(Tk.add_inf ha' hb' hi).1, (Tk.add_inf ha' hb' hi).2]
    have hm : ((if a < b then b else a) == 4611686018427387904) = true := by
      rcases Tk.kinds a with ⟨h1, h2, h3⟩ | rfl | h <;> rcases Tk.kinds b with ⟨g1, g2, g3⟩ | rfl | g <;> simp_all <;> omega
    clear hi
    go_enter Tryd.func14, Tryd.ntmps14
    go_wp2_with (go_at_call 9; refine (is_any _ _).mono ?_; rintro e w' ⟨rfl, rfl⟩)
    all_goals
      go_ret2
      exact ⟨rfl, rfl⟩
  have hta : 0 ≤ a ∧ a ≤ 1099511627776 := by rcases Tk.kinds a with ⟨h1, h2, h3⟩ | rfl | h <;> simp_all
  have htb : 0 ≤ b ∧ b ≤ 1099511627776 := by rcases Tk.kinds b with ⟨h1, h2, h3⟩ | rfl | h <;> simp_all
  obtain ⟨a1, a2⟩ := hta
  obtain ⟨b1, b2⟩ := htb
  have hm : ((if a < b then b else a) == 4611686018427387904) = false := by
    rw [beq_eq_false_iff_ne]; split <;> omega
  clear hi
  by_cases hs : a + b ≤ 1099511627776
  · rw [(Tk.add_fits ⟨a1, a2⟩ ⟨b1, b2⟩ hs).1, (Tk.add_fits ⟨a1, a2⟩ ⟨b1, b2⟩ hs).2]
    have hc : Tk.chk (a + b) = 0 := Tk.chk_ok ⟨by omega, hs⟩
    go_enter Tryd.func14, Tryd.ntmps14
    go_wp2_with (first | (go_at_call 9; refine (is_any _ _).mono ?_; rintro e w' ⟨rfl, rfl⟩) | (go_at_call 28; refine (small_any _ _).mono ?_; rintro e w' ⟨rfl, rfl⟩))
    all_goals
      go_ret2
      exact ⟨rfl, rfl⟩
  · rw [(Tk.add_over ⟨a1, a2⟩ ⟨b1, b2⟩ (by omega)).1, (Tk.add_over ⟨a1, a2⟩ ⟨b1, b2⟩ (by omega)).2]
    have hc : Tk.chk (a + b) = 9 := Tk.chk_no (by omega)
    go_enter Tryd.func14, Tryd.ntmps14
    go_wp2_with (first | (go_at_call 9; refine (is_any _ _).mono ?_; rintro e w' ⟨rfl, rfl⟩) | (go_at_call 28; refine (small_any _ _).mono ?_; rintro e w' ⟨rfl, rfl⟩))
    all_goals
      go_ret2
      exact ⟨rfl, rfl⟩

set_option maxHeartbeats 400000 in
theorem sub_any (a b : Int) (w : World) :
    Calls Tryd.prog 10 #[.int .i64 a, .int .i64 b] w fun e w' => e = .returned (.tuple #[.int .i64 (Tk.subV a b), .int .i64 (Tk.subE a b)]) ∧ w = w' := by
  rcases Tk.kinds a with ⟨ha, _, _⟩ | rfl | ⟨a1, a2⟩
  · rw [(Tk.sub_no (.inl ha)).1, (Tk.sub_no (.inl ha)).2]
    go_enter Tryd.func10, Tryd.ntmps10
    go_wp2_with (go_at_call 9; refine (is_any _ _).mono ?_; rintro e w' ⟨rfl, rfl⟩)
    go_ret2
    exact ⟨rfl, rfl⟩
  · have ha := Tk.isT_inf
    rcases Tk.kinds b with ⟨hb, _, _⟩ | rfl | ⟨b1, b2⟩
    · rw [(Tk.sub_no (.inr (.inl hb))).1, (Tk.sub_no (.inr (.inl hb))).2]
      go_enter Tryd.func10, Tryd.ntmps10
      go_wp2_with (go_at_call 9; refine (is_any _ _).mono ?_; rintro e w' ⟨rfl, rfl⟩)
      go_ret2
      exact ⟨rfl, rfl⟩
    · rw [(Tk.sub_no (.inr (.inr (.inl rfl)))).1, (Tk.sub_no (.inr (.inr (.inl rfl)))).2]
      go_enter Tryd.func10, Tryd.ntmps10
      go_wp2_with (go_at_call 9; refine (is_any _ _).mono ?_; rintro e w' ⟨rfl, rfl⟩)
      go_ret2
      exact ⟨rfl, rfl⟩
    · rw [(Tk.sub_inf ⟨b1, b2⟩).1, (Tk.sub_inf ⟨b1, b2⟩).2]
      have hb := Tk.isT_tick ⟨b1, b2⟩
      have hq : (b == 4611686018427387904) = false := beq_eq_false_iff_ne.2 (by omega)
      go_enter Tryd.func10, Tryd.ntmps10
      go_wp2_with (go_at_call 9; refine (is_any _ _).mono ?_; rintro e w' ⟨rfl, rfl⟩)
      go_ret2
      exact ⟨rfl, rfl⟩
  · have ha := Tk.isT_tick ⟨a1, a2⟩
    have hp : (a == 4611686018427387904) = false := beq_eq_false_iff_ne.2 (by omega)
    rcases Tk.kinds b with ⟨hb, _, _⟩ | rfl | ⟨b1, b2⟩
    · rw [(Tk.sub_no (.inr (.inl hb))).1, (Tk.sub_no (.inr (.inl hb))).2]
      go_enter Tryd.func10, Tryd.ntmps10
      go_wp2_with (go_at_call 9; refine (is_any _ _).mono ?_; rintro e w' ⟨rfl, rfl⟩)
      go_ret2
      exact ⟨rfl, rfl⟩
    · rw [(Tk.sub_no (.inr (.inr (.inl rfl)))).1, (Tk.sub_no (.inr (.inr (.inl rfl)))).2]
      have hb := Tk.isT_inf
      go_enter Tryd.func10, Tryd.ntmps10
      go_wp2_with (go_at_call 9; refine (is_any _ _).mono ?_; rintro e w' ⟨rfl, rfl⟩)
      go_ret2
      exact ⟨rfl, rfl⟩
    · have hb := Tk.isT_tick ⟨b1, b2⟩
      have hq : (b == 4611686018427387904) = false := beq_eq_false_iff_ne.2 (by omega)
      by_cases hs : b ≤ a
      · rw [(Tk.sub_fits ⟨a1, a2⟩ ⟨b1, b2⟩ hs).1, (Tk.sub_fits ⟨a1, a2⟩ ⟨b1, b2⟩ hs).2]
        have hd : decide (a < b) = false := by simpa using hs
        go_enter Tryd.func10, Tryd.ntmps10
        go_wp2_with (go_at_call 9; refine (is_any _ _).mono ?_; rintro e w' ⟨rfl, rfl⟩)
        go_ret2
        exact ⟨rfl, rfl⟩
      · have hs' : a < b := by omega
        clear hs
        rw [(Tk.sub_no (.inr (.inr (.inr hs')))).1, (Tk.sub_no (.inr (.inr (.inr hs')))).2]
        have hd : decide (a < b) = true := by simpa using hs'
        go_enter Tryd.func10, Tryd.ntmps10
        go_wp2_with (go_at_call 9; refine (is_any _ _).mono ?_; rintro e w' ⟨rfl, rfl⟩)
        go_ret2
        exact ⟨rfl, rfl⟩

end Go.Proofs.YtihlnciknnddkaaDoor
