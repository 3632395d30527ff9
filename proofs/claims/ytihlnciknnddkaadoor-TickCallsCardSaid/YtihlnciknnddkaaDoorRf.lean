/- The walks of timetableref01: Is, Check, Add, Sub, Mul, At, Count: each returns what its plain function (Tk) says, and leaves the world as it was. -/
import Derived.Test.YtihlnciknnddkaaDoorTx
namespace Go.Proofs.YtihlnciknnddkaaDoor
open Go.RowKit

set_option maxHeartbeats 400000 in
theorem rchk_any (t : Int) (w : World) :
    Calls Tryd.prog 21 #[.int .i64 t] w fun e w' => e = .returned (.int .i64 (Tk.chk t)) ∧ w = w' := by
  rcases Tk.chk_cases t with ⟨h1, h2, h3⟩ | ⟨h1, h3⟩
  · rw [h3]
    go_enter Tryd.func21, Tryd.ntmps21
    go_wp2
    go_ret
    exact ⟨rfl, rfl⟩
  · rw [h3]
    by_cases h0 : t < 0
    · clear h1 h3
      go_enter Tryd.func21, Tryd.ntmps21
      go_wp2
      go_ret
      exact ⟨rfl, rfl⟩
    · have h0' : 0 ≤ t := by omega
      have h4 : 1099511627776 < t := by omega
      clear h1 h3 h0
      go_enter Tryd.func21, Tryd.ntmps21
      go_wp2
      go_ret
      exact ⟨rfl, rfl⟩

set_option maxHeartbeats 400000 in
theorem ris_any (t : Int) (w : World) :
    Calls Tryd.prog 20 #[.int .i64 t] w fun e w' => e = .returned (.bool (Tk.isT t)) ∧ w = w' := by
  rcases Tk.kinds t with ⟨h1, h2, h3⟩ | rfl | ⟨h1, h2⟩
  · rw [h1]
    have h4 : ¬ (0 ≤ t ∧ t ≤ 1099511627776) := fun h => by rw [Tk.isT_tick h] at h1; exact absurd h1 (by decide)
    by_cases h0 : t < 0
    · clear h1 h2 h4
      go_enter Tryd.func20, Tryd.ntmps20
      go_wp2
      go_ret
      exact ⟨rfl, rfl⟩
    · have h0' : 0 ≤ t := by omega
      have h5 : decide (t ≤ 1099511627776) = false := decide_eq_false (by omega)
      clear h1 h2 h4 h0
      go_enter Tryd.func20, Tryd.ntmps20
      go_wp2
      go_ret
      exact ⟨rfl, rfl⟩
  · rw [Tk.isT_inf]
    go_enter Tryd.func20, Tryd.ntmps20
    go_wp2
    go_ret
    exact ⟨rfl, rfl⟩
  · rw [Tk.isT_tick ⟨h1, h2⟩]
    go_enter Tryd.func20, Tryd.ntmps20
    go_wp2
    go_ret
    exact ⟨rfl, rfl⟩

set_option maxHeartbeats 400000 in
theorem radd_any (a b : Int) (w : World) :
    Calls Tryd.prog 15 #[.int .i64 a, .int .i64 b] w fun e w' => e = .returned (.tuple #[.int .i64 (Tk.addV a b), .int .i64 (Tk.addE a b)]) ∧ w = w' := by
  by_cases ha : Tk.isT a = false
  · rw [(Tk.add_bad (.inl ha)).1, (Tk.add_bad (.inl ha)).2]
    go_enter Tryd.func15, Tryd.ntmps15
    go_wp2_with (go_at_call 20; refine (ris_any _ _).mono ?_; rintro e w' ⟨rfl, rfl⟩)
    go_ret2
    exact ⟨rfl, rfl⟩
  have ha' : Tk.isT a = true := by simpa using ha
  clear ha
  by_cases hb : Tk.isT b = false
  · rw [(Tk.add_bad (.inr hb)).1, (Tk.add_bad (.inr hb)).2]
    go_enter Tryd.func15, Tryd.ntmps15
    go_wp2_with (go_at_call 20; refine (ris_any _ _).mono ?_; rintro e w' ⟨rfl, rfl⟩)
    go_ret2
    exact ⟨rfl, rfl⟩
  have hb' : Tk.isT b = true := by simpa using hb
  clear hb
  by_cases hi : a = 4611686018427387904
  · rw [(Tk.add_inf ha' hb' (.inl hi)).1, (Tk.add_inf ha' hb' (.inl hi)).2]
    subst hi
    go_enter Tryd.func15, Tryd.ntmps15
    go_wp2_with (go_at_call 20; refine (ris_any _ _).mono ?_; rintro e w' ⟨rfl, rfl⟩)
    go_ret2
    exact ⟨rfl, rfl⟩
  have hi' : (a == 4611686018427387904) = false := beq_eq_false_iff_ne.2 hi
  by_cases hj : b = 4611686018427387904
  · rw [(Tk.add_inf ha' hb' (.inr hj)).1, (Tk.add_inf ha' hb' (.inr hj)).2]
    subst hj
    clear hi
    go_enter Tryd.func15, Tryd.ntmps15
    go_wp2_with (go_at_call 20; refine (ris_any _ _).mono ?_; rintro e w' ⟨rfl, rfl⟩)
    go_ret2
    exact ⟨rfl, rfl⟩
  have hj' : (b == 4611686018427387904) = false := beq_eq_false_iff_ne.2 hj
  have hta : 0 ≤ a ∧ a ≤ 1099511627776 := by rcases Tk.kinds a with ⟨h1, h2, h3⟩ | rfl | h <;> simp_all
  have htb : 0 ≤ b ∧ b ≤ 1099511627776 := by rcases Tk.kinds b with ⟨h1, h2, h3⟩ | rfl | h <;> simp_all
  obtain ⟨a1, a2⟩ := hta
  obtain ⟨b1, b2⟩ := htb
  clear hi hj
  by_cases hs : a + b ≤ 1099511627776
  · rw [(Tk.add_fits ⟨a1, a2⟩ ⟨b1, b2⟩ hs).1, (Tk.add_fits ⟨a1, a2⟩ ⟨b1, b2⟩ hs).2]
    go_enter Tryd.func15, Tryd.ntmps15
    go_wp2_with (go_at_call 20; refine (ris_any _ _).mono ?_; rintro e w' ⟨rfl, rfl⟩)
    go_ret2
    exact ⟨rfl, rfl⟩
  · rw [(Tk.add_over ⟨a1, a2⟩ ⟨b1, b2⟩ (by omega)).1, (Tk.add_over ⟨a1, a2⟩ ⟨b1, b2⟩ (by omega)).2]
    go_enter Tryd.func15, Tryd.ntmps15
    go_wp2_with (go_at_call 20; refine (ris_any _ _).mono ?_; rintro e w' ⟨rfl, rfl⟩)
    go_ret2
    exact ⟨rfl, rfl⟩

set_option maxHeartbeats 400000 in
theorem rsub_any (a b : Int) (w : World) :
    Calls Tryd.prog 16 #[.int .i64 a, .int .i64 b] w fun e w' => e = .returned (.tuple #[.int .i64 (Tk.subV a b), .int .i64 (Tk.subE a b)]) ∧ w = w' := by
  rcases Tk.kinds a with ⟨ha, _, _⟩ | rfl | ⟨a1, a2⟩
  · rw [(Tk.sub_no (.inl ha)).1, (Tk.sub_no (.inl ha)).2]
    go_enter Tryd.func16, Tryd.ntmps16
    go_wp2_with (go_at_call 20; refine (ris_any _ _).mono ?_; rintro e w' ⟨rfl, rfl⟩)
    go_ret2
    exact ⟨rfl, rfl⟩
  · have ha := Tk.isT_inf
    rcases Tk.kinds b with ⟨hb, _, _⟩ | rfl | ⟨b1, b2⟩
    · rw [(Tk.sub_no (.inr (.inl hb))).1, (Tk.sub_no (.inr (.inl hb))).2]
      go_enter Tryd.func16, Tryd.ntmps16
      go_wp2_with (go_at_call 20; refine (ris_any _ _).mono ?_; rintro e w' ⟨rfl, rfl⟩)
      go_ret2
      exact ⟨rfl, rfl⟩
    · rw [(Tk.sub_no (.inr (.inr (.inl rfl)))).1, (Tk.sub_no (.inr (.inr (.inl rfl)))).2]
      go_enter Tryd.func16, Tryd.ntmps16
      go_wp2_with (go_at_call 20; refine (ris_any _ _).mono ?_; rintro e w' ⟨rfl, rfl⟩)
      go_ret2
      exact ⟨rfl, rfl⟩
    · rw [(Tk.sub_inf ⟨b1, b2⟩).1, (Tk.sub_inf ⟨b1, b2⟩).2]
      have hb := Tk.isT_tick ⟨b1, b2⟩
      have hq : (b == 4611686018427387904) = false := beq_eq_false_iff_ne.2 (by omega)
      go_enter Tryd.func16, Tryd.ntmps16
      go_wp2_with (go_at_call 20; refine (ris_any _ _).mono ?_; rintro e w' ⟨rfl, rfl⟩)
      go_ret2
      exact ⟨rfl, rfl⟩
  · have ha := Tk.isT_tick ⟨a1, a2⟩
    have hp : (a == 4611686018427387904) = false := beq_eq_false_iff_ne.2 (by omega)
    rcases Tk.kinds b with ⟨hb, _, _⟩ | rfl | ⟨b1, b2⟩
    · rw [(Tk.sub_no (.inr (.inl hb))).1, (Tk.sub_no (.inr (.inl hb))).2]
      go_enter Tryd.func16, Tryd.ntmps16
      go_wp2_with (go_at_call 20; refine (ris_any _ _).mono ?_; rintro e w' ⟨rfl, rfl⟩)
      go_ret2
      exact ⟨rfl, rfl⟩
    · rw [(Tk.sub_no (.inr (.inr (.inl rfl)))).1, (Tk.sub_no (.inr (.inr (.inl rfl)))).2]
      have hb := Tk.isT_inf
      go_enter Tryd.func16, Tryd.ntmps16
      go_wp2_with (go_at_call 20; refine (ris_any _ _).mono ?_; rintro e w' ⟨rfl, rfl⟩)
      go_ret2
      exact ⟨rfl, rfl⟩
    · have hb := Tk.isT_tick ⟨b1, b2⟩
      have hq : (b == 4611686018427387904) = false := beq_eq_false_iff_ne.2 (by omega)
      by_cases hs : b ≤ a
      · rw [(Tk.sub_fits ⟨a1, a2⟩ ⟨b1, b2⟩ hs).1, (Tk.sub_fits ⟨a1, a2⟩ ⟨b1, b2⟩ hs).2]
        go_enter Tryd.func16, Tryd.ntmps16
        go_wp2_with (go_at_call 20; refine (ris_any _ _).mono ?_; rintro e w' ⟨rfl, rfl⟩)
        go_ret2
        exact ⟨rfl, rfl⟩
      · have hs' : a < b := by omega
        clear hs
        rw [(Tk.sub_no (.inr (.inr (.inr hs')))).1, (Tk.sub_no (.inr (.inr (.inr hs')))).2]
        go_enter Tryd.func16, Tryd.ntmps16
        go_wp2_with (go_at_call 20; refine (ris_any _ _).mono ?_; rintro e w' ⟨rfl, rfl⟩)
        go_ret2
        exact ⟨rfl, rfl⟩

/-- The document's test for a product that is too great. -/
theorem rmul_test {a n : Int} (hn : 0 < n) : (1099511627776 / n < a) ↔ 1099511627776 < a * n := by
  rw [Int.ediv_lt_iff_lt_mul hn]
set_option maxHeartbeats 400000 in
theorem rmul_any (a n : Int) (w : World) :
    Calls Tryd.prog 17 #[.int .i64 a, .int .i64 n] w fun e w' => e = .returned (.tuple #[.int .i64 (Tk.mulV a n), .int .i64 (Tk.mulE a n)]) ∧ w = w' := by
  by_cases hn : n < 0
  · rw [(Tk.mul_no (.inr hn)).1, (Tk.mul_no (.inr hn)).2]
    cases ha : Tk.isT a
    all_goals
      go_enter Tryd.func17, Tryd.ntmps17
      go_wp2_with (go_at_call 20; refine (ris_any _ _).mono ?_; rintro e w' ⟨rfl, rfl⟩)
      go_ret2
      exact ⟨rfl, rfl⟩
  by_cases ha : Tk.isT a = false
  · rw [(Tk.mul_no (.inl ha)).1, (Tk.mul_no (.inl ha)).2]
    go_enter Tryd.func17, Tryd.ntmps17
    go_wp2_with (go_at_call 20; refine (ris_any _ _).mono ?_; rintro e w' ⟨rfl, rfl⟩)
    go_ret2
    exact ⟨rfl, rfl⟩
  have ha' : Tk.isT a = true := by simpa using ha
  clear ha
  have hn' : 0 ≤ n := by omega
  clear hn
  by_cases h0 : n = 0
  · subst h0
    rw [(Tk.mul_zero' ha').1, (Tk.mul_zero' ha').2]
    clear hn'
    go_enter Tryd.func17, Tryd.ntmps17
    go_wp2_with (go_at_call 20; refine (ris_any _ _).mono ?_; rintro e w' ⟨rfl, rfl⟩)
    go_ret2
    exact ⟨rfl, rfl⟩
  have hp : 0 < n := by omega
  have hz : (n == 0) = false := beq_eq_false_iff_ne.2 h0
  clear h0 hn'
  by_cases hi : a = 4611686018427387904
  · subst hi
    rw [(Tk.mul_inf hp).1, (Tk.mul_inf hp).2]
    go_enter Tryd.func17, Tryd.ntmps17
    go_wp2_with (go_at_call 20; refine (ris_any _ _).mono ?_; rintro e w' ⟨rfl, rfl⟩)
    go_ret2
    exact ⟨rfl, rfl⟩
  have hta : 0 ≤ a ∧ a ≤ 1099511627776 := by rcases Tk.kinds a with ⟨h1, h2, h3⟩ | rfl | h <;> simp_all
  have hi' : (a == 4611686018427387904) = false := beq_eq_false_iff_ne.2 hi
  clear hi
  have ht := rmul_test (a := a) hp
  have n1 : 1 ≤ n := by omega
  by_cases hs : 1099511627776 < a * n
  · rw [(Tk.mul_over hta hp hs).1, (Tk.mul_over hta hp hs).2]
    have hd : decide (1099511627776 / n < a) = true := decide_eq_true (ht.2 hs)
    obtain ⟨a1, a2⟩ := hta
    clear ht hs
    go_enter Tryd.func17, Tryd.ntmps17
    go_wp2_with (go_at_call 20; refine (ris_any _ _).mono ?_; rintro e w' ⟨rfl, rfl⟩)
    go_ret2
    exact ⟨rfl, rfl⟩
  · rw [(Tk.mul_fits hta (by omega) (by omega)).1, (Tk.mul_fits hta (by omega) (by omega)).2]
    have hd : decide (1099511627776 / n < a) = false := decide_eq_false (fun h => hs (ht.1 h))
    have hw : wrap64 (a * n) = a * n := IntWalk.wrap64_in _ ⟨by have := Int.mul_nonneg hta.1 (Int.le_of_lt hp); omega, by omega⟩
    obtain ⟨a1, a2⟩ := hta
    clear ht hs
    have Hw := Lib.hid hw
    clear hw
    go_enter Tryd.func17, Tryd.ntmps17
    go_wp2_with (go_at_call 20; refine (ris_any _ _).mono ?_; rintro e w' ⟨rfl, rfl⟩)
    go_ret2
    exact ⟨ret_int2 Hw.out rfl, rfl⟩

set_option maxHeartbeats 400000 in
theorem rat_any (f e i : Int) (w : World) :
    Calls Tryd.prog 18 #[.int .i64 f, .int .i64 e, .int .i64 i] w fun r w' => r = .returned (.tuple #[.int .i64 (Tk.atV f e i), .int .i64 (Tk.atE f e i)]) ∧ w = w' := by
  rcases Tk.chk_cases f with ⟨f1, f2, hf⟩ | ⟨_, hf⟩
  rotate_left
  · rw [(Tk.at_no (.inl hf)).1, (Tk.at_no (.inl hf)).2]
    go_enter Tryd.func18, Tryd.ntmps18
    go_wp2_with (go_at_call 21; refine (rchk_any _ _).mono ?_; rintro e w' ⟨rfl, rfl⟩)
    go_ret2
    exact ⟨rfl, rfl⟩
  rcases Tk.chk_cases e with ⟨e1, e2, he⟩ | ⟨_, he⟩
  rotate_left
  · rw [(Tk.at_no (.inr (.inl he))).1, (Tk.at_no (.inr (.inl he))).2]
    go_enter Tryd.func18, Tryd.ntmps18
    go_wp2_with (go_at_call 21; refine (rchk_any _ _).mono ?_; rintro e w' ⟨rfl, rfl⟩)
    go_ret2
    exact ⟨rfl, rfl⟩
  by_cases hi : i < 0
  · rw [(Tk.at_no (.inr (.inr (.inl hi)))).1, (Tk.at_no (.inr (.inr (.inl hi)))).2]
    go_enter Tryd.func18, Tryd.ntmps18
    go_wp2_with (go_at_call 21; refine (rchk_any _ _).mono ?_; rintro e w' ⟨rfl, rfl⟩)
    go_ret2
    exact ⟨rfl, rfl⟩
  have hi' : 0 ≤ i := by omega
  clear hi
  by_cases h0 : e = 0
  · subst h0
    clear e1 e2
    by_cases hz : 0 < i
    · rw [(Tk.at_no (.inr (.inr (.inr ⟨rfl, hz⟩)))).1, (Tk.at_no (.inr (.inr (.inr ⟨rfl, hz⟩)))).2]
      go_enter Tryd.func18, Tryd.ntmps18
      go_wp2_with (go_at_call 21; refine (rchk_any _ _).mono ?_; rintro e w' ⟨rfl, rfl⟩)
      go_ret2
      exact ⟨rfl, rfl⟩
    · have hz' : i ≤ 0 := by omega
      rw [(Tk.at_ok hf he hi' (fun _ => hz') (by rw [Int.zero_mul]; omega)).1, (Tk.at_ok hf he hi' (fun _ => hz') (by rw [Int.zero_mul]; omega)).2, Int.zero_mul, Int.add_zero]
      clear hz
      go_enter Tryd.func18, Tryd.ntmps18
      go_wp2_with (go_at_call 21; refine (rchk_any _ _).mono ?_; rintro e w' ⟨rfl, rfl⟩)
      go_ret2
      exact ⟨rfl, rfl⟩
  · have h0' : (e == 0) = false := beq_eq_false_iff_ne.2 h0
    have e3 : 1 ≤ e := by omega
    have ht : ((1099511627776 - f) / e < i) ↔ 1099511627776 < f + e * i := by
      rw [Int.ediv_lt_iff_lt_mul (by omega), Int.mul_comm]; omega
    by_cases hs : 1099511627776 < f + e * i
    · rw [(Tk.at_over hs).1, (Tk.at_over hs).2]
      have hd : decide ((1099511627776 - f) / e < i) = true := decide_eq_true (ht.2 hs)
      clear ht hs h0
      go_enter Tryd.func18, Tryd.ntmps18
      go_wp2_with (go_at_call 21; refine (rchk_any _ _).mono ?_; rintro e w' ⟨rfl, rfl⟩)
      go_ret2
      exact ⟨rfl, rfl⟩
    · rw [(Tk.at_ok hf he hi' (fun h => absurd h h0) (by omega)).1, (Tk.at_ok hf he hi' (fun h => absurd h h0) (by omega)).2]
      have hd : decide ((1099511627776 - f) / e < i) = false := decide_eq_false (fun h => hs (ht.1 h))
      have hpn : 0 ≤ i * e := Int.mul_nonneg hi' e1
      rw [Int.mul_comm e i] at hs ⊢
      have hw1 : wrap64 (i * e) = i * e := IntWalk.wrap64_in _ ⟨by omega, by omega⟩
      have hw2 : wrap64 (f + i * e) = f + i * e := IntWalk.wrap64_in _ ⟨by omega, by omega⟩
      clear ht h0
      go_enter Tryd.func18, Tryd.ntmps18
      go_wp2_with (go_at_call 21; refine (rchk_any _ _).mono ?_; rintro e w' ⟨rfl, rfl⟩)
      go_ret2
      exact ⟨rfl, rfl⟩

set_option maxHeartbeats 400000 in
theorem rcount_any (f e u : Int) (w : World) :
    Calls Tryd.prog 23 #[.int .i64 f, .int .i64 e, .int .i64 u] w fun r w' => r = .returned (.int .i64 (Tk.cnt f e u)) ∧ w = w' := by
  rcases Tk.chk_cases f with ⟨f1, f2, hf⟩ | ⟨_, hf⟩
  rotate_left
  · rw [Tk.cnt_no (.inl hf)]
    go_enter Tryd.func23, Tryd.ntmps23
    go_wp2_with (go_at_call 21; refine (rchk_any _ _).mono ?_; rintro e w' ⟨rfl, rfl⟩)
    go_ret
    exact ⟨rfl, rfl⟩
  rcases Tk.chk_cases e with ⟨e1, e2, he⟩ | ⟨_, he⟩
  rotate_left
  · rw [Tk.cnt_no (.inr (.inl he))]
    go_enter Tryd.func23, Tryd.ntmps23
    go_wp2_with (go_at_call 21; refine (rchk_any _ _).mono ?_; rintro e w' ⟨rfl, rfl⟩)
    go_ret
    exact ⟨rfl, rfl⟩
  rcases Tk.chk_cases u with ⟨u1, u2, hu⟩ | ⟨_, hu⟩
  rotate_left
  · rw [Tk.cnt_no (.inr (.inr (.inl hu)))]
    go_enter Tryd.func23, Tryd.ntmps23
    go_wp2_with (go_at_call 21; refine (rchk_any _ _).mono ?_; rintro e w' ⟨rfl, rfl⟩)
    go_ret
    exact ⟨rfl, rfl⟩
  by_cases hg : u < f
  · rw [Tk.cnt_no (.inr (.inr (.inr hg)))]
    go_enter Tryd.func23, Tryd.ntmps23
    go_wp2_with (go_at_call 21; refine (rchk_any _ _).mono ?_; rintro e w' ⟨rfl, rfl⟩)
    go_ret
    exact ⟨rfl, rfl⟩
  have hg' : f ≤ u := by omega
  clear hg
  by_cases h0 : e = 0
  · subst h0
    rw [Tk.cnt_one hf he hu hg']
    go_enter Tryd.func23, Tryd.ntmps23
    go_wp2_with (go_at_call 21; refine (rchk_any _ _).mono ?_; rintro e w' ⟨rfl, rfl⟩)
    go_ret
    exact ⟨rfl, rfl⟩
  · rw [Tk.cnt_of hf he hu hg' h0]
    have h0' : (e == 0) = false := beq_eq_false_iff_ne.2 h0
    have e3 : 1 ≤ e := by omega
    have hb : (u - f) / e ≤ 1099511627776 := Int.le_trans (Int.ediv_le_self _ (by omega)) (by omega)
    have hb' : 0 ≤ (u - f) / e := Int.ediv_nonneg (by omega) (by omega)
    clear h0
    go_enter Tryd.func23, Tryd.ntmps23
    go_wp2_with (go_at_call 21; refine (rchk_any _ _).mono ?_; rintro e w' ⟨rfl, rfl⟩)
    go_ret
    exact ⟨rfl, rfl⟩

end Go.Proofs.YtihlnciknnddkaaDoor
