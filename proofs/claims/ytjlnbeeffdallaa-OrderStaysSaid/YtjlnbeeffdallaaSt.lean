/- The walks of order.steps, order.first, order.search, order.Lower, order.Upper, order.Rising: they only read (and draw, and lay the closure's variable). -/
import Derived.Test.YtjlnbeeffdallaaOr
namespace Go.Proofs.Ytjlnbeeffdallaa
open Go.RowKit

/-- Each number is good behind the one ahead. -/
def stepsB (g : Int → Int → Bool) : List Int → Bool
  | [] => true
  | [_] => true
  | a :: b :: r => g a b && stepsB g (b :: r)
theorem stepsB_iff (g : Int → Int → Bool) (l : List Int) : stepsB g l = true ↔ ∀ j (h : j + 1 < l.length), g l[j] l[j + 1] = true := by
  induction l with
  | nil => simp [stepsB]
  | cons a r ih =>
    cases r with
    | nil => simp [stepsB]
    | cons b s =>
      rw [stepsB, Bool.and_eq_true, ih]
      constructor
      · rintro ⟨h1, h2⟩ j hj
        match j, hj with
        | 0, _ => exact h1
        | j + 1, hj => exact h2 j (by simpa using hj)
      · intro h
        exact ⟨h 0 (by simp), fun j hj => h (j + 1) (by simpa using hj)⟩
def StepsRel (g : Int → Int → Bool) (l : List Int) (w : World) (s : Value) (wr : World) : Prop :=
  ∃ k n : Nat, 1 ≤ k ∧ k ≤ max l.length 1 ∧ s = .int .i64 k ∧ (∀ j (_ : j + 1 < l.length), j + 1 < k → g l[j] l[j + 1] = true) ∧ wr = w.drewN n
theorem steps_yes {g : Int → Int → Bool} {l : List Int} {k : Nat} (hk : l.length ≤ k) (h : ∀ j (_ : j + 1 < l.length), j + 1 < k → g l[j] l[j + 1] = true) : stepsB g l = true :=
  (stepsB_iff g l).2 fun j hj => h j hj (by omega)
theorem steps_no {g : Int → Int → Bool} {l : List Int} {k : Nat} (hk : k < l.length) (h1 : 1 ≤ k) (h : g l[k - 1] l[k] = false) : stepsB g l = false := by
  cases hb : stepsB g l with
  | false => rfl
  | true =>
    have := (stepsB_iff g l).1 hb (k - 1) (by omega)
    simp only [show k - 1 + 1 = k from by omega] at this
    rw [h] at this
    cases this
theorem steps_next {g : Int → Int → Bool} {l : List Int} {k : Nat} (hk : k < l.length) (h1 : 1 ≤ k) (hg : g l[k - 1] l[k] = true) (h : ∀ j (_ : j + 1 < l.length), j + 1 < k → g l[j] l[j + 1] = true) :
    ∀ j (_ : j + 1 < l.length), j + 1 < k + 1 → g l[j] l[j + 1] = true := by
  intro j hj hlt
  by_cases he : j + 1 = k
  · have e1 : j = k - 1 := by omega
    subst e1
    simp only [show k - 1 + 1 = k from by omega]
    exact hg
  · exact h j hj (by omega)

theorem quiet_left {P : Program} {f : FuncId} {args : Array Value} {w : World} {n : Nat} {v : Value} (h : Calls P f args (w.drewN n) fun e w' => e = .returned v ∧ w.drewN n = w') : Calls P f args (w.drewN n) fun e w'' => e = .returned v ∧ ∃ m, w'' = w.drewN m :=
  h.mono fun _ _ ⟨he, hm⟩ => ⟨he, n, hm.symm⟩
theorem quiet_add_left {P : Program} {f : FuncId} {args : Array Value} {w : World} {a n : Nat} {v : Value} (h : Calls P f args (w.drewN (a + n)) fun e w' => e = .returned v ∧ w.drewN (a + n) = w') :
    Calls P f args (w.drewN (a + n)) fun e w'' => e = .returned v ∧ ∃ m, w'' = w.drewN (a + m) :=
  h.mono fun _ _ ⟨he, hm⟩ => ⟨he, n, hm.symm⟩
set_option maxHeartbeats 400000 in
theorem le_any (a b : Int) (w : World) : Calls Try.prog 38 #[.int .i64 a, .int .i64 b] w fun e w' => e = .returned (.bool (decide (a ≤ b))) ∧ w = w' := by
  go_enter Try.func38, Try.ntmps38
  go_wp2
  go_ret
  exact ⟨rfl, rfl⟩
set_option maxHeartbeats 400000 in
theorem isNaN_any (a : Int) (w : World) : Calls Try.prog 40 #[.int .i64 a] w fun e w' => e = .returned (.bool false) ∧ w = w' := by
  have h : (a != a) = false := bne_self_eq_false a
  go_enter Try.func40, Try.ntmps40
  go_wp2
  go_ret
  exact ⟨rfl, rfl⟩
set_option maxHeartbeats 400000 in
theorem less_any (a b : Int) (w : World) : Calls Try.prog 36 #[.int .i64 a, .int .i64 b] w fun e w' => e = .returned (.bool (decide (a < b))) ∧ w = w' := by
  go_enter Try.func36, Try.ntmps36
  go_wp2_with (go_at_call 40; refine (isNaN_any _ _).mono ?_; rintro e w' ⟨rfl, rfl⟩)
  go_ret
  exact ⟨rfl, rfl⟩

set_option maxHeartbeats 1000000 in
theorem steps_le (vl : Value) (l : List Int) (w : World) {P : Nat → Prop} (hl : Sl ic 1 w vl l P) (hsz : l.length ≤ 1048576) :
    Calls Try.prog 35 #[vl, .func (.func 38) #[] #[]] w (Quiet (.bool (stepsB (fun a b => decide (a ≤ b)) l)) w) := by
  obtain ⟨A, cap, rfl, hc1, hc2⟩ := hl.shape
  go_enter Try.func35, Try.ntmps35
  go_wp2
  go_loopw [5] (fun s wr => StepsRel (fun a b => decide (a ≤ b)) l w s wr) (fun s _ => l.length - (intOf s).toNat)
  case atStart => exact ⟨1, 0, by omega, by omega, rfl, fun j _ h => absurd h (by omega), rfl⟩
  case round =>
    obtain ⟨k, n, hk1, hk2, rfl, hh, rfl⟩ := hrel
    by_cases hlt : k < l.length
    · obtain ⟨b, off, c, e, h1, h2, h3, _, h5⟩ := hl.form (by omega)
      injection e with e e' e''
      subst e
      have hcx := h5 (k - 1) l[k - 1] (List.getElem?_eq_getElem (by omega)) 0 _ rfl
      have hcy := h5 k l[k] (List.getElem?_eq_getElem hlt) 0 _ rfl
      obtain ⟨x, Hx⟩ : ∃ x, Hid (l[k - 1] = x) := ⟨_, Lib.hid rfl⟩
      obtain ⟨y, Hy⟩ : ∃ y, Hid (l[k] = y) := ⟨_, Lib.hid rfl⟩
      rw [Hx.out] at hcx
      rw [Hy.out] at hcy
      have hx0 : w.cell? ⟨b, off + (k - 1), none⟩ = some (.int .i64 x) := by simpa using hcx
      have hy0 : w.cell? ⟨b, off + k, none⟩ = some (.int .i64 y) := by simpa using hcy
      have Hh := Lib.hid hh
      clear hh hcx hcy h5 e' e''
      have q1 : (0 : Int) ≤ (k : Int) := by omega
      have q2 : (k : Int) < (l.length : Int) := by omega
      have q3 : (0 : Int) ≤ (k : Int) - 1 := by omega
      have q4 : (k : Int) - 1 < (l.length : Int) := by omega
      have q5 : (1 : Int) ≤ (k : Int) := by omega
      have q8 : (k : Int) < (l.length : Int) + 1 := by omega
      have q9 : k - 1 < l.length := by omega
      have q6 : IntKind.i64.wrap ((k : Int) - 1) = (k : Int) - 1 := IntWalk.i64_in _ (by omega)
      have q7 : ((k : Int) - 1).toNat = k - 1 := by omega
      by_cases hg : x ≤ y
      · have hgb : decide (x ≤ y) = true := decide_eq_true hg
        have Hg := Lib.hid hgb
        clear hg
        go_wp2
        go_quiet ((go_at_call 38; exact quiet_add_left (le_any _ _ _)))
        go_wp2
        go_roundw
        case rel => exact ⟨k + 1, _, by omega, by omega, by go_num, steps_next (g := fun a b => decide (a ≤ b)) hlt hk1 (by show decide (l[k - 1] ≤ l[k]) = true; rw [Hx.out, Hy.out]; exact Hg.out) Hh.out, by first | rfl | exact World.drewN_drewN _ _ _⟩
        case measure => simp [intOf]; omega
      · have hgb : decide (x ≤ y) = false := decide_eq_false hg
        have hno : stepsB (fun a b => decide (a ≤ b)) l = false := steps_no hlt hk1 (by show decide (l[k - 1] ≤ l[k]) = false; rw [Hx.out, Hy.out]; exact hgb)
        have Hno := Lib.hid hno
        clear hg hno
        go_wp2
        go_quiet ((go_at_call 38; exact quiet_add_left (le_any _ _ _)))
        go_wp2
        go_ret
        exact ⟨ret_bool Hno.out.symm, _, World.drewN_drewN _ _ _⟩
    · have Heq := Lib.hid (steps_yes (g := fun a b => decide (a ≤ b)) (l := l) (k := k) (by omega) hh)
      clear hh
      go_wp2
      go_ret
      exact ⟨ret_bool Heq.out.symm, n, rfl⟩

set_option maxHeartbeats 1000000 in
theorem steps_lt (vl : Value) (l : List Int) (w : World) {P : Nat → Prop} (hl : Sl ic 1 w vl l P) (hsz : l.length ≤ 1048576) :
    Calls Try.prog 35 #[vl, .func (.func 36) #[] #[]] w (Quiet (.bool (stepsB (fun a b => decide (a < b)) l)) w) := by
  obtain ⟨A, cap, rfl, hc1, hc2⟩ := hl.shape
  go_enter Try.func35, Try.ntmps35
  go_wp2
  go_loopw [5] (fun s wr => StepsRel (fun a b => decide (a < b)) l w s wr) (fun s _ => l.length - (intOf s).toNat)
  case atStart => exact ⟨1, 0, by omega, by omega, rfl, fun j _ h => absurd h (by omega), rfl⟩
  case round =>
    obtain ⟨k, n, hk1, hk2, rfl, hh, rfl⟩ := hrel
    by_cases hlt : k < l.length
    · obtain ⟨b, off, c, e, h1, h2, h3, _, h5⟩ := hl.form (by omega)
      injection e with e e' e''
      subst e
      have hcx := h5 (k - 1) l[k - 1] (List.getElem?_eq_getElem (by omega)) 0 _ rfl
      have hcy := h5 k l[k] (List.getElem?_eq_getElem hlt) 0 _ rfl
      obtain ⟨x, Hx⟩ : ∃ x, Hid (l[k - 1] = x) := ⟨_, Lib.hid rfl⟩
      obtain ⟨y, Hy⟩ : ∃ y, Hid (l[k] = y) := ⟨_, Lib.hid rfl⟩
      rw [Hx.out] at hcx
      rw [Hy.out] at hcy
      have hx0 : w.cell? ⟨b, off + (k - 1), none⟩ = some (.int .i64 x) := by simpa using hcx
      have hy0 : w.cell? ⟨b, off + k, none⟩ = some (.int .i64 y) := by simpa using hcy
      have Hh := Lib.hid hh
      clear hh hcx hcy h5 e' e''
      have q1 : (0 : Int) ≤ (k : Int) := by omega
      have q2 : (k : Int) < (l.length : Int) := by omega
      have q3 : (0 : Int) ≤ (k : Int) - 1 := by omega
      have q4 : (k : Int) - 1 < (l.length : Int) := by omega
      have q5 : (1 : Int) ≤ (k : Int) := by omega
      have q8 : (k : Int) < (l.length : Int) + 1 := by omega
      have q9 : k - 1 < l.length := by omega
      have q6 : IntKind.i64.wrap ((k : Int) - 1) = (k : Int) - 1 := IntWalk.i64_in _ (by omega)
      have q7 : ((k : Int) - 1).toNat = k - 1 := by omega
      by_cases hg : x < y
      · have hgb : decide (x < y) = true := decide_eq_true hg
        have Hg := Lib.hid hgb
        clear hg
        go_wp2
        go_quiet ((go_at_call 36; exact quiet_add_left (less_any _ _ _)))
        go_wp2
        go_roundw
        case rel => exact ⟨k + 1, _, by omega, by omega, by go_num, steps_next (g := fun a b => decide (a < b)) hlt hk1 (by show decide (l[k - 1] < l[k]) = true; rw [Hx.out, Hy.out]; exact Hg.out) Hh.out, by first | rfl | exact World.drewN_drewN _ _ _⟩
        case measure => simp [intOf]; omega
      · have hgb : decide (x < y) = false := decide_eq_false hg
        have hno : stepsB (fun a b => decide (a < b)) l = false := steps_no hlt hk1 (by show decide (l[k - 1] < l[k]) = false; rw [Hx.out, Hy.out]; exact hgb)
        have Hno := Lib.hid hno
        clear hg hno
        go_wp2
        go_quiet ((go_at_call 36; exact quiet_add_left (less_any _ _ _)))
        go_wp2
        go_ret
        exact ⟨ret_bool Hno.out.symm, _, World.drewN_drewN _ _ _⟩
    · have Heq := Lib.hid (steps_yes (g := fun a b => decide (a < b)) (l := l) (k := k) (by omega) hh)
      clear hh
      go_wp2
      go_ret
      exact ⟨ret_bool Heq.out.symm, n, rfl⟩

set_option maxHeartbeats 400000 in
theorem rising_any (vl : Value) (l : List Int) (w : World) {P : Nat → Prop} (hl : Sl ic 1 w vl l P) (hsz : l.length ≤ 1048576) :
    Calls Try.prog 20 #[vl] w (Quiet (.bool (stepsB (fun a b => decide (a < b)) l)) w) := by
  have H := Lib.hid (steps_lt vl l w hl hsz)
  go_enter Try.func20, Try.ntmps20
  go_wp2_with (go_at_call 35; refine H.out.mono ?_; rintro e w' ⟨rfl, n, rfl⟩)
  go_ret
  exact ⟨rfl, n, rfl⟩

end Go.Proofs.Ytjlnbeeffdallaa
