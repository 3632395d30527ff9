/- The walks of timetableref02.Rising, falls, Lower, Upper: they only read (and draw). -/
import Derived.Test.YtjlnbeeffdallaaLu
namespace Go.Proofs.Ytjlnbeeffdallaa
open Go.RowKit

set_option maxHeartbeats 1000000 in
theorem rrising_any (vl : Value) (l : List Int) (w : World) {P : Nat → Prop} (hl : Sl ic 1 w vl l P) (hsz : l.length ≤ 1048576) :
    Calls Try.prog 26 #[vl] w (Quiet (.bool (stepsB (fun a b => decide (a < b)) l)) w) := by
  obtain ⟨A, cap, rfl, hc1, hc2⟩ := hl.shape
  go_enter Try.func26, Try.ntmps26
  go_wp2
  go_loopw [3] (fun s wr => StepsRel (fun a b => decide (a < b)) l w s wr) (fun s _ => l.length - (intOf s).toNat)
  case atStart => exact ⟨1, 0, by omega, by omega, rfl, fun j _ h => absurd h (by omega), rfl⟩
  case round =>
    obtain ⟨k, n, hk1, hk2, rfl, hh, rfl⟩ := hrel
    by_cases hlt : k < l.length
    · obtain ⟨b, off, c, e, h1, h2, h3, _, h5⟩ := hl.form (by omega)
      injection e with e e' e''
      subst e
      have hcx := h5 (k - 1) l[k - 1] (List.getElem?_eq_getElem (by omega)) 0 _ rfl
      have hcy := h5 k l[k] (List.getElem?_eq_getElem hlt) 0 _ rfl
      obtain ⟨x, Hx⟩ : ∃ x, Hid (l[k - 1] = x) := ⟨_, Lib.hid rfl⟩
      obtain ⟨y, Hy⟩ : ∃ y, Hid (l[k] = y) := ⟨_, Lib.hid rfl⟩
      rw [Hx.out] at hcx
      rw [Hy.out] at hcy
      have hx0 : w.cell? ⟨b, off + (k - 1), none⟩ = some (.int .i64 x) := by simpa using hcx
      have hy0 : w.cell? ⟨b, off + k, none⟩ = some (.int .i64 y) := by simpa using hcy
      have Hh := Lib.hid hh
      clear hh hcx hcy h5 e' e''
      have q1 : (0 : Int) ≤ (k : Int) := by omega
      have q2 : (k : Int) < (l.length : Int) := by omega
      have q3 : (0 : Int) ≤ (k : Int) - 1 := by omega
      have q4 : (k : Int) - 1 < (l.length : Int) := by omega
      have q5 : (1 : Int) ≤ (k : Int) := by omega
      have q8 : (k : Int) < (l.length : Int) + 1 := by omega
      have q9 : k - 1 < l.length := by omega
      have q6 : IntKind.i64.wrap ((k : Int) - 1) = (k : Int) - 1 := IntWalk.i64_in _ (by omega)
      have q7 : ((k : Int) - 1).toNat = k - 1 := by omega
      by_cases hg : x < y
      · have hgb : decide (x < y) = true := decide_eq_true hg
        have hgc : decide (y ≤ x) = false := decide_eq_false (by omega)
        have Hg := Lib.hid hgb
        go_wp2
        go_quiet (fail)
        go_wp2
        go_roundw
        case rel => exact ⟨k + 1, _, by omega, by omega, by go_num, steps_next (g := fun a b => decide (a < b)) hlt hk1 (by show decide (l[k - 1] < l[k]) = true; rw [Hx.out, Hy.out]; exact Hg.out) Hh.out, by first | rfl | exact World.drewN_drewN _ _ _⟩
        case measure => simp [intOf]; omega
      · have hgb : decide (x < y) = false := decide_eq_false hg
        have hgc : decide (y ≤ x) = true := decide_eq_true (by omega)
        have hno : stepsB (fun a b => decide (a < b)) l = false := steps_no hlt hk1 (by show decide (l[k - 1] < l[k]) = false; rw [Hx.out, Hy.out]; exact hgb)
        have Hno := Lib.hid hno
        clear hno
        go_wp2
        go_quiet (fail)
        go_wp2
        go_ret
        exact ⟨ret_bool Hno.out.symm, _, by first | rfl | exact World.drewN_drewN _ _ _⟩
    · have Heq := Lib.hid (steps_yes (g := fun a b => decide (a < b)) (l := l) (k := k) (by omega) hh)
      clear hh
      go_wp2
      go_ret
      exact ⟨ret_bool Heq.out.symm, n, rfl⟩

set_option maxHeartbeats 1000000 in
theorem falls_any (vl : Value) (l : List Int) (w : World) {P : Nat → Prop} (hl : Sl ic 1 w vl l P) (hsz : l.length ≤ 1048576) :
    Calls Try.prog 37 #[vl] w (Quiet (.bool (!stepsB (fun a b => decide (a ≤ b)) l)) w) := by
  obtain ⟨A, cap, rfl, hc1, hc2⟩ := hl.shape
  go_enter Try.func37, Try.ntmps37
  go_wp2
  go_loopw [3] (fun s wr => StepsRel (fun a b => decide (a ≤ b)) l w s wr) (fun s _ => l.length - (intOf s).toNat)
  case atStart => exact ⟨1, 0, by omega, by omega, rfl, fun j _ h => absurd h (by omega), rfl⟩
  case round =>
    obtain ⟨k, n, hk1, hk2, rfl, hh, rfl⟩ := hrel
    by_cases hlt : k < l.length
    · obtain ⟨b, off, c, e, h1, h2, h3, _, h5⟩ := hl.form (by omega)
      injection e with e e' e''
      subst e
      have hcx := h5 (k - 1) l[k - 1] (List.getElem?_eq_getElem (by omega)) 0 _ rfl
      have hcy := h5 k l[k] (List.getElem?_eq_getElem hlt) 0 _ rfl
      obtain ⟨x, Hx⟩ : ∃ x, Hid (l[k - 1] = x) := ⟨_, Lib.hid rfl⟩
      obtain ⟨y, Hy⟩ : ∃ y, Hid (l[k] = y) := ⟨_, Lib.hid rfl⟩
      rw [Hx.out] at hcx
      rw [Hy.out] at hcy
      have hx0 : w.cell? ⟨b, off + (k - 1), none⟩ = some (.int .i64 x) := by simpa using hcx
      have hy0 : w.cell? ⟨b, off + k, none⟩ = some (.int .i64 y) := by simpa using hcy
      have Hh := Lib.hid hh
      clear hh hcx hcy h5 e' e''
      have q1 : (0 : Int) ≤ (k : Int) := by omega
      have q2 : (k : Int) < (l.length : Int) := by omega
      have q3 : (0 : Int) ≤ (k : Int) - 1 := by omega
      have q4 : (k : Int) - 1 < (l.length : Int) := by omega
      have q5 : (1 : Int) ≤ (k : Int) := by omega
      have q8 : (k : Int) < (l.length : Int) + 1 := by omega
      have q9 : k - 1 < l.length := by omega
      have q6 : IntKind.i64.wrap ((k : Int) - 1) = (k : Int) - 1 := IntWalk.i64_in _ (by omega)
      have q7 : ((k : Int) - 1).toNat = k - 1 := by omega
      by_cases hg : x ≤ y
      · have hgb : decide (x ≤ y) = true := decide_eq_true hg
        have hgc : decide (y < x) = false := decide_eq_false (by omega)
        have Hg := Lib.hid hgb
        go_wp2
        go_quiet (fail)
        go_wp2
        go_roundw
        case rel => exact ⟨k + 1, _, by omega, by omega, by go_num, steps_next (g := fun a b => decide (a ≤ b)) hlt hk1 (by show decide (l[k - 1] ≤ l[k]) = true; rw [Hx.out, Hy.out]; exact Hg.out) Hh.out, by first | rfl | exact World.drewN_drewN _ _ _⟩
        case measure => simp [intOf]; omega
      · have hgb : decide (x ≤ y) = false := decide_eq_false hg
        have hgc : decide (y < x) = true := decide_eq_true (by omega)
        have hno : stepsB (fun a b => decide (a ≤ b)) l = false := steps_no hlt hk1 (by show decide (l[k - 1] ≤ l[k]) = false; rw [Hx.out, Hy.out]; exact hgb)
        have Hno := Lib.hid hno
        clear hno
        go_wp2
        go_quiet (fail)
        go_wp2
        go_ret
        exact ⟨ret_bool (by rw [Hno.out]; rfl), _, by first | rfl | exact World.drewN_drewN _ _ _⟩
    · have Heq := Lib.hid (steps_yes (g := fun a b => decide (a ≤ b)) (l := l) (k := k) (by omega) hh)
      clear hh
      go_wp2
      go_ret
      exact ⟨ret_bool (by rw [Heq.out]; rfl), n, rfl⟩

def IdxRel (p : Int → Bool) (l : List Int) (w : World) (s : Value) (wr : World) : Prop :=
  ∃ k n : Nat, k ≤ l.length ∧ s = .int .i64 k ∧ (∀ i (_ : i < l.length), i < k → p l[i] = false) ∧ wr = w.drewN n
theorem idx_of {p : Int → Bool} {l : List Int} {k : Nat} (hk : k ≤ l.length) (h : ∀ i (_ : i < l.length), i < k → p l[i] = false) (hx : ∀ h : k < l.length, p l[k] = true) : l.findIdx p = k := by
  by_cases hlt : k < l.length
  · exact (List.findIdx_eq hlt).2 ⟨hx hlt, fun j hj => h j (by omega) hj⟩
  · have : k = l.length := by omega
    subst this
    exact List.findIdx_eq_length.2 fun x hx => by
      obtain ⟨i, hi, rfl⟩ := List.getElem_of_mem hx
      exact h i hi hi
theorem idx_step {p : Int → Bool} {l : List Int} {k : Nat} (hk : k < l.length) (h : ∀ i (_ : i < l.length), i < k → p l[i] = false) (hp : p l[k] = false) : ∀ i (_ : i < l.length), i < k + 1 → p l[i] = false := by
  intro i hi hlt
  by_cases he : i = k
  · subst he; exact hp
  · exact h i hi (by omega)

set_option maxHeartbeats 1000000 in
theorem rlower_any (vl : Value) (l : List Int) (x : Int) (w : World) {P : Nat → Prop} (hl : Sl ic 1 w vl l P) (hsz : l.length ≤ 1048576) :
    Calls Try.prog 27 #[vl, .int .i64 x] w (Quiet (.int .i64 (lower l x)) w) := by
  have HF := Lib.hid (falls_any vl l w hl hsz)
  obtain ⟨A, cap, rfl, hc1, hc2⟩ := hl.shape
  cases hb : stepsB (fun a b => decide (a ≤ b)) l
  · have hf : lower l x = -1 := by unfold lower; rw [hb]; rfl
    rw [hf]
    rw [hb] at HF
    clear hf hb
    go_enter Try.func27, Try.ntmps27
    go_wp2_with (go_at_call 37; refine HF.out.mono ?_; rintro e w' ⟨rfl, n, rfl⟩)
    go_ret
    exact ⟨rfl, n, rfl⟩
  · have hf : lower l x = (l.findIdx fun y => decide (x ≤ y) : Nat) := by unfold lower; rw [if_pos hb]
    rw [hf]
    rw [hb] at HF
    clear hf hb
    go_enter Try.func27, Try.ntmps27
    go_wp2_with (go_at_call 37; refine HF.out.mono ?_; rintro e w' ⟨rfl, n, rfl⟩)
    go_loopw [5] (fun s wr => IdxRel (fun y => decide (x ≤ y)) l w s wr) (fun s _ => l.length - (intOf s).toNat)
    case atStart => exact ⟨0, n, Nat.zero_le _, rfl, (fun i _ h => absurd h (by omega)), rfl⟩
    case round =>
      obtain ⟨k, n, hk, rfl, hh, rfl⟩ := hrel
      by_cases hlt : k < l.length
      · obtain ⟨b, off, c, e, h1, h2, h3, _, h5⟩ := hl.form (by omega)
        injection e with e e' e''
        subst e
        have hcy := h5 k l[k] (List.getElem?_eq_getElem hlt) 0 _ rfl
        obtain ⟨y, Hy⟩ : ∃ y, Hid (l[k] = y) := ⟨_, Lib.hid rfl⟩
        rw [Hy.out] at hcy
        have hy0 : w.cell? ⟨b, off + k, none⟩ = some (.int .i64 y) := by simpa using hcy
        have Hh := Lib.hid hh
        clear hh hcy h5 e' e''
        have q1 : (0 : Int) ≤ (k : Int) := by omega
        have q2 : (k : Int) < (l.length : Int) := by omega
        by_cases hg : x ≤ y
        · have hgb : decide (x ≤ y) = true := decide_eq_true hg
          have hgc : decide (y < x) = false := decide_eq_false (by omega)
          have He := Lib.hid (idx_of (p := fun y => decide (x ≤ y)) (by omega) Hh.out (fun _ => by show (fun y => decide (x ≤ y)) l[k] = true; rw [Hy.out]; exact hgb))
          go_wp2
          try (go_quiet (fail); go_wp2)
          go_ret
          exact ⟨ret_i64 (by rw [He.out]), _, by first | rfl | exact World.drewN_drewN _ _ _⟩
        · have hgb : decide (x ≤ y) = false := decide_eq_false hg
          have hgc : decide (y < x) = true := decide_eq_true (by omega)
          have Hs := Lib.hid (idx_step (p := fun y => decide (x ≤ y)) hlt Hh.out (by show (fun y => decide (x ≤ y)) l[k] = false; rw [Hy.out]; exact hgb))
          go_wp2
          try (go_quiet (fail); go_wp2)
          go_roundw
          case rel => exact ⟨k + 1, _, by omega, by go_num, Hs.out, by first | rfl | exact World.drewN_drewN _ _ _⟩
          case measure => simp [intOf]; omega
      · have He := Lib.hid (idx_of (p := fun y => decide (x ≤ y)) (l := l) (k := k) hk hh (fun h => absurd h hlt))
        clear hh
        go_wp2
        try (go_quiet (fail); go_wp2)
        go_ret
        exact ⟨ret_i64 (by rw [He.out]), _, by first | rfl | exact World.drewN_drewN _ _ _⟩

set_option maxHeartbeats 1000000 in
theorem rupper_any (vl : Value) (l : List Int) (x : Int) (w : World) {P : Nat → Prop} (hl : Sl ic 1 w vl l P) (hsz : l.length ≤ 1048576) :
    Calls Try.prog 28 #[vl, .int .i64 x] w (Quiet (.int .i64 (upper l x)) w) := by
  have HF := Lib.hid (falls_any vl l w hl hsz)
  obtain ⟨A, cap, rfl, hc1, hc2⟩ := hl.shape
  cases hb : stepsB (fun a b => decide (a ≤ b)) l
  · have hf : upper l x = -1 := by unfold upper; rw [hb]; rfl
    rw [hf]
    rw [hb] at HF
    clear hf hb
    go_enter Try.func28, Try.ntmps28
    go_wp2_with (go_at_call 37; refine HF.out.mono ?_; rintro e w' ⟨rfl, n, rfl⟩)
    go_ret
    exact ⟨rfl, n, rfl⟩
  · have hf : upper l x = (l.findIdx fun y => decide (x < y) : Nat) := by unfold upper; rw [if_pos hb]
    rw [hf]
    rw [hb] at HF
    clear hf hb
    go_enter Try.func28, Try.ntmps28
    go_wp2_with (go_at_call 37; refine HF.out.mono ?_; rintro e w' ⟨rfl, n, rfl⟩)
    go_loopw [5] (fun s wr => IdxRel (fun y => decide (x < y)) l w s wr) (fun s _ => l.length - (intOf s).toNat)
    case atStart => exact ⟨0, n, Nat.zero_le _, rfl, (fun i _ h => absurd h (by omega)), rfl⟩
    case round =>
      obtain ⟨k, n, hk, rfl, hh, rfl⟩ := hrel
      by_cases hlt : k < l.length
      · obtain ⟨b, off, c, e, h1, h2, h3, _, h5⟩ := hl.form (by omega)
        injection e with e e' e''
        subst e
        have hcy := h5 k l[k] (List.getElem?_eq_getElem hlt) 0 _ rfl
        obtain ⟨y, Hy⟩ : ∃ y, Hid (l[k] = y) := ⟨_, Lib.hid rfl⟩
        rw [Hy.out] at hcy
        have hy0 : w.cell? ⟨b, off + k, none⟩ = some (.int .i64 y) := by simpa using hcy
        have Hh := Lib.hid hh
        clear hh hcy h5 e' e''
        have q1 : (0 : Int) ≤ (k : Int) := by omega
        have q2 : (k : Int) < (l.length : Int) := by omega
        by_cases hg : x < y
        · have hgb : decide (x < y) = true := decide_eq_true hg
          have hgc : decide (y ≤ x) = false := decide_eq_false (by omega)
          have He := Lib.hid (idx_of (p := fun y => decide (x < y)) (by omega) Hh.out (fun _ => by show (fun y => decide (x < y)) l[k] = true; rw [Hy.out]; exact hgb))
          go_wp2
          try (go_quiet (fail); go_wp2)
          go_ret
          exact ⟨ret_i64 (by rw [He.out]), _, by first | rfl | exact World.drewN_drewN _ _ _⟩
        · have hgb : decide (x < y) = false := decide_eq_false hg
          have hgc : decide (y ≤ x) = true := decide_eq_true (by omega)
          have Hs := Lib.hid (idx_step (p := fun y => decide (x < y)) hlt Hh.out (by show (fun y => decide (x < y)) l[k] = false; rw [Hy.out]; exact hgb))
          go_wp2
          try (go_quiet (fail); go_wp2)
          go_roundw
          case rel => exact ⟨k + 1, _, by omega, by go_num, Hs.out, by first | rfl | exact World.drewN_drewN _ _ _⟩
          case measure => simp [intOf]; omega
      · have He := Lib.hid (idx_of (p := fun y => decide (x < y)) (l := l) (k := k) hk hh (fun h => absurd h hlt))
        clear hh
        go_wp2
        try (go_quiet (fail); go_wp2)
        go_ret
        exact ⟨ret_i64 (by rw [He.out]), _, by first | rfl | exact World.drewN_drewN _ _ _⟩

end Go.Proofs.Ytjlnbeeffdallaa
