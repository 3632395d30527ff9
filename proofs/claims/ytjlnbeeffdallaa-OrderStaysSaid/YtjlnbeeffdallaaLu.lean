/- The walks of order.first, order.search, order.Lower, order.Upper. -/
import Derived.Test.YtjlnbeeffdallaaSt
namespace Go.Proofs.Ytjlnbeeffdallaa
open Go.RowKit

theorem steps_mono {l : List Int} (h : stepsB (fun a b => decide (a ≤ b)) l = true) (i d : Nat) (hd : i + d < l.length) : l[i]'(by omega) ≤ l[i + d] := by
  induction d with
  | zero => exact Int.le_refl _
  | succ d ih =>
    have := of_decide_eq_true ((stepsB_iff _ l).1 h (i + d) (by omega))
    exact Int.le_trans (ih (by omega)) this
theorem steps_le_le {l : List Int} (h : stepsB (fun a b => decide (a ≤ b)) l = true) {i j : Nat} (hij : i ≤ j) (hj : j < l.length) : l[i]'(by omega) ≤ l[j] := by
  have := steps_mono h i (j - i) (by omega)
  simpa only [show i + (j - i) = j from by omega] using this
/-- What a predicate that stays true once it is says of a place. -/
def Parts (p : Int → Bool) (l : List Int) (lo hi : Nat) : Prop := lo ≤ hi ∧ hi ≤ l.length ∧ (∀ i (_ : i < l.length), i < lo → p l[i] = false) ∧ (∀ i (_ : i < l.length), hi ≤ i → p l[i] = true)
theorem parts_end {p : Int → Bool} {l : List Int} {k : Nat} (h : Parts p l k k) : l.findIdx p = k := by
  obtain ⟨_, h2, h3, h4⟩ := h
  by_cases hk : k < l.length
  · exact (List.findIdx_eq hk).2 ⟨h4 k hk (Nat.le_refl _), fun j hj => h3 j (by omega) hj⟩
  · have : k = l.length := by omega
    subst this
    exact List.findIdx_eq_length.2 fun x hx => by
      obtain ⟨i, hi, rfl⟩ := List.getElem_of_mem hx
      exact h3 i hi hi
theorem parts_high {p : Int → Bool} {l : List Int} {lo hi mid : Nat} (hs : stepsB (fun a b => decide (a ≤ b)) l = true) (hp : ∀ a b, a ≤ b → p a = true → p b = true) (h : Parts p l lo hi) (h1 : lo ≤ mid) (h2 : mid < hi) (hm : p (l[mid]'(by have := h.2.1; omega)) = true) : Parts p l lo mid :=
  ⟨h1, by have := h.2.1; omega, h.2.2.1, fun _ hil hi2 => hp _ _ (steps_le_le hs hi2 hil) hm⟩
theorem parts_low {p : Int → Bool} {l : List Int} {lo hi mid : Nat} (hs : stepsB (fun a b => decide (a ≤ b)) l = true) (hp : ∀ a b, a ≤ b → p a = true → p b = true) (h : Parts p l lo hi) (h2 : mid < hi) (hm : p (l[mid]'(by have := h.2.1; omega)) = false) : Parts p l (mid + 1) hi :=
  ⟨h2, h.2.1, (fun i hil hi2 => by
    cases hb : p l[i] with
    | false => rfl
    | true =>
      have := hp _ _ (steps_le_le hs (show i ≤ mid by omega) (by have := h.2.1; omega)) hb
      rw [hm] at this
      cases this), h.2.2.2⟩
def FirstRel (p : Int → Bool) (l : List Int) (w : World) (s5 s6 : Value) (wr : World) : Prop :=
  ∃ lo hi n : Nat, s5 = .int .i64 lo ∧ s6 = .int .i64 hi ∧ Parts p l lo hi ∧ wr = w.drewN n
theorem ge_mono (x : Int) : ∀ a b : Int, a ≤ b → decide (x ≤ a) = true → decide (x ≤ b) = true := fun _ _ h h1 => decide_eq_true (Int.le_trans (of_decide_eq_true h1) h)
theorem gt_mono (x : Int) : ∀ a b : Int, a ≤ b → decide (x < a) = true → decide (x < b) = true := fun _ _ h h1 => decide_eq_true (Int.lt_of_lt_of_le (of_decide_eq_true h1) h)
theorem ret_i64 {a b : Int} (h : a = b) : Ending.returned (.int .i64 a) = .returned (.int .i64 b) := by rw [h]

set_option maxHeartbeats 400000 in
theorem geq_any (y x : Int) (g : Nat) (w : World) (hx : w.cell? ⟨g, 0, none⟩ = some (.int .i64 x)) : Calls Try.prog 33 #[.int .i64 y, .pointer (some ⟨g, 0, none⟩)] w fun e w' => e = .returned (.bool (decide (x ≤ y))) ∧ w = w' := by
  go_enter Try.func33, Try.ntmps33
  go_wp2
  go_ret
  exact ⟨rfl, rfl⟩

set_option maxHeartbeats 1000000 in
theorem first_ge (vl : Value) (l : List Int) (x : Int) (g : Nat) (w : World) {P : Nat → Prop} (hl : Sl ic 1 w vl l P) (hsz : l.length ≤ 1048576) (hx : w.cell? ⟨g, 0, none⟩ = some (.int .i64 x)) (hs : stepsB (fun a b => decide (a ≤ b)) l = true) :
    Calls Try.prog 39 #[vl, .func (.func 33) #[] #[.pointer (some ⟨g, 0, none⟩)]] w (Quiet (.int .i64 (l.findIdx fun y => decide (x ≤ y))) w) := by
  obtain ⟨A, cap, rfl, hc1, hc2⟩ := hl.shape
  have Hs := Lib.hid hs
  clear hs
  go_enter Try.func39, Try.ntmps39
  go_wp2
  go_loopw [5, 6, 7] (fun s5 s6 _ wr => FirstRel (fun y => decide (x ≤ y)) l w s5 s6 wr) (fun s5 s6 _ _ => (intOf s6).toNat - (intOf s5).toNat)
  case atStart => exact ⟨0, l.length, 0, rfl, rfl, ⟨Nat.zero_le _, Nat.le_refl _, fun i _ h => absurd h (Nat.not_lt_zero i), fun i h h' => absurd h (by omega)⟩, rfl⟩
  case round =>
    obtain ⟨lo, hi, n, rfl, rfl, hp, rfl⟩ := hrel
    have hp1 := hp.1
    have hp2 := hp.2.1
    by_cases hlt : lo < hi
    · obtain ⟨b, off, c, e, h1, h2, h3, _, h5⟩ := hl.form (by omega)
      injection e with e e' e''
      subst e
      have hmid : ((lo : Int) + (hi : Int)) / 2 = (((lo + hi) / 2 : Nat) : Int) := by omega
      have m1 : lo ≤ (lo + hi) / 2 := by omega
      have m2 : (lo + hi) / 2 < hi := by omega
      generalize (lo + hi) / 2 = m at *
      have hml : m < l.length := by omega
      have hcy := h5 m l[m] (List.getElem?_eq_getElem hml) 0 _ rfl
      obtain ⟨y, Hy⟩ : ∃ y, Hid (l[m] = y) := ⟨_, Lib.hid rfl⟩
      rw [Hy.out] at hcy
      have hy0 : w.cell? ⟨b, off + m, none⟩ = some (.int .i64 y) := by simpa using hcy
      clear hcy h5 e' e''
      have q1 : (0 : Int) ≤ (m : Int) := by omega
      have q2 : (m : Int) < (l.length : Int) := by omega
      by_cases hg : x ≤ y
      · have hgb : decide (x ≤ y) = true := decide_eq_true hg
        have Hg := Lib.hid hgb
        have Hp := Lib.hid (parts_high Hs.out (ge_mono x) hp m1 m2 (by show decide (x ≤ l[m]) = true; rw [Hy.out]; exact hgb))
        clear hg
        go_wp2_with (go_at_call 33; refine (geq_any y x g _ ?_).mono ?_; (exact hx); rintro e w' ⟨rfl, rfl⟩)
        go_roundw
        case rel => exact ⟨lo, m, n, rfl, rfl, Hp.out, rfl⟩
        case measure => simp [intOf]; omega
      · have hgb : decide (x ≤ y) = false := decide_eq_false hg
        have Hp := Lib.hid (parts_low Hs.out (ge_mono x) hp m2 (by show decide (x ≤ l[m]) = false; rw [Hy.out]; exact hgb))
        clear hg
        go_wp2_with (go_at_call 33; refine (geq_any y x g _ ?_).mono ?_; (exact hx); rintro e w' ⟨rfl, rfl⟩)
        go_roundw
        case rel => exact ⟨m + 1, hi, n, by go_num, rfl, Hp.out, rfl⟩
        case measure => simp [intOf]; omega
    · obtain rfl : lo = hi := by omega
      have He := Lib.hid (parts_end hp)
      go_wp2
      go_ret
      exact ⟨ret_i64 (by rw [He.out]), n, rfl⟩

/-- What order.search tells. -/
def lower (l : List Int) (x : Int) : Int := if stepsB (fun a b => decide (a ≤ b)) l = true then (l.findIdx fun y => decide (x ≤ y) : Nat) else -1

set_option maxHeartbeats 400000 in
theorem lower_search (vl : Value) (l : List Int) (x : Int) (g : Nat) (w : World) {P : Nat → Prop} (hl : Sl ic 1 w vl l P) (hsz : l.length ≤ 1048576) (hx : w.cell? ⟨g, 0, none⟩ = some (.int .i64 x)) :
    Calls Try.prog 32 #[vl, .func (.func 33) #[] #[.pointer (some ⟨g, 0, none⟩)]] w (Quiet (.int .i64 (lower l x)) w) := by
  have H := Lib.hid (steps_le vl l w hl hsz)
  cases hb : stepsB (fun a b => decide (a ≤ b)) l
  · have hf : lower l x = -1 := by unfold lower; rw [hb]; rfl
    rw [hf]
    clear hf
    go_enter Try.func32, Try.ntmps32
    go_wp2_with (go_at_call 35; refine H.out.mono ?_; rintro e w' ⟨rfl, n, rfl⟩)
    go_ret
    exact ⟨rfl, n, rfl⟩
  · have hf : lower l x = (l.findIdx fun y => decide (x ≤ y) : Nat) := by unfold lower; rw [if_pos hb]
    rw [hf]
    clear hf
    have Hb := Lib.hid hb
    go_enter Try.func32, Try.ntmps32
    go_wp2_with (first | (go_at_call 35; refine H.out.mono ?_; rintro e w' ⟨rfl, n, rfl⟩) | (go_at_call 39; refine (first_ge vl l x g _ (hl.drewN _) hsz hx Hb.out).mono ?_; rintro e w' ⟨rfl, n2, rfl⟩))
    go_ret
    exact ⟨rfl, n + n2, by first | rfl | exact World.drewN_drewN _ _ _⟩

set_option maxHeartbeats 400000 in
theorem lower_any (vl : Value) (l : List Int) (x : Int) (w : World) {P : Nat → Prop} (hl : Sl ic 1 w vl l P) (hsz : l.length ≤ 1048576) :
    Calls Try.prog 17 #[vl, .int .i64 x] w fun e w' => e = .returned (.int .i64 (lower l x)) ∧ Below w.heap.size w w' := by
  go_enter Try.func17, Try.ntmps17
  go_wp2_with (go_at_call 32; refine (lower_search vl l x w.heap.size _ (hl.alloc _) hsz (by simp)).mono ?_; rintro e w' ⟨rfl, n, rfl⟩)
  go_ret
  exact ⟨rfl, below_drewN ((Below.refl _ _).alloc (Nat.le_refl _) _) n⟩

set_option maxHeartbeats 400000 in
theorem gtr_any (y x : Int) (g : Nat) (w : World) (hx : w.cell? ⟨g, 0, none⟩ = some (.int .i64 x)) : Calls Try.prog 34 #[.int .i64 y, .pointer (some ⟨g, 0, none⟩)] w fun e w' => e = .returned (.bool (decide (x < y))) ∧ w = w' := by
  go_enter Try.func34, Try.ntmps34
  go_wp2
  go_ret
  exact ⟨rfl, rfl⟩

set_option maxHeartbeats 1000000 in
theorem first_gt (vl : Value) (l : List Int) (x : Int) (g : Nat) (w : World) {P : Nat → Prop} (hl : Sl ic 1 w vl l P) (hsz : l.length ≤ 1048576) (hx : w.cell? ⟨g, 0, none⟩ = some (.int .i64 x)) (hs : stepsB (fun a b => decide (a ≤ b)) l = true) :
    Calls Try.prog 39 #[vl, .func (.func 34) #[] #[.pointer (some ⟨g, 0, none⟩)]] w (Quiet (.int .i64 (l.findIdx fun y => decide (x < y))) w) := by
  obtain ⟨A, cap, rfl, hc1, hc2⟩ := hl.shape
  have Hs := Lib.hid hs
  clear hs
  go_enter Try.func39, Try.ntmps39
  go_wp2
  go_loopw [5, 6, 7] (fun s5 s6 _ wr => FirstRel (fun y => decide (x < y)) l w s5 s6 wr) (fun s5 s6 _ _ => (intOf s6).toNat - (intOf s5).toNat)
  case atStart => exact ⟨0, l.length, 0, rfl, rfl, ⟨Nat.zero_le _, Nat.le_refl _, fun i _ h => absurd h (Nat.not_lt_zero i), fun i h h' => absurd h (by omega)⟩, rfl⟩
  case round =>
    obtain ⟨lo, hi, n, rfl, rfl, hp, rfl⟩ := hrel
    have hp1 := hp.1
    have hp2 := hp.2.1
    by_cases hlt : lo < hi
    · obtain ⟨b, off, c, e, h1, h2, h3, _, h5⟩ := hl.form (by omega)
      injection e with e e' e''
      subst e
      have hmid : ((lo : Int) + (hi : Int)) / 2 = (((lo + hi) / 2 : Nat) : Int) := by omega
      have m1 : lo ≤ (lo + hi) / 2 := by omega
      have m2 : (lo + hi) / 2 < hi := by omega
      generalize (lo + hi) / 2 = m at *
      have hml : m < l.length := by omega
      have hcy := h5 m l[m] (List.getElem?_eq_getElem hml) 0 _ rfl
      obtain ⟨y, Hy⟩ : ∃ y, Hid (l[m] = y) := ⟨_, Lib.hid rfl⟩
      rw [Hy.out] at hcy
      have hy0 : w.cell? ⟨b, off + m, none⟩ = some (.int .i64 y) := by simpa using hcy
      clear hcy h5 e' e''
      have q1 : (0 : Int) ≤ (m : Int) := by omega
      have q2 : (m : Int) < (l.length : Int) := by omega
      by_cases hg : x < y
      · have hgb : decide (x < y) = true := decide_eq_true hg
        have Hg := Lib.hid hgb
        have Hp := Lib.hid (parts_high Hs.out (gt_mono x) hp m1 m2 (by show decide (x < l[m]) = true; rw [Hy.out]; exact hgb))
        clear hg
        go_wp2_with (go_at_call 34; refine (gtr_any y x g _ ?_).mono ?_; (exact hx); rintro e w' ⟨rfl, rfl⟩)
        go_roundw
        case rel => exact ⟨lo, m, n, rfl, rfl, Hp.out, rfl⟩
        case measure => simp [intOf]; omega
      · have hgb : decide (x < y) = false := decide_eq_false hg
        have Hp := Lib.hid (parts_low Hs.out (gt_mono x) hp m2 (by show decide (x < l[m]) = false; rw [Hy.out]; exact hgb))
        clear hg
        go_wp2_with (go_at_call 34; refine (gtr_any y x g _ ?_).mono ?_; (exact hx); rintro e w' ⟨rfl, rfl⟩)
        go_roundw
        case rel => exact ⟨m + 1, hi, n, by go_num, rfl, Hp.out, rfl⟩
        case measure => simp [intOf]; omega
    · obtain rfl : lo = hi := by omega
      have He := Lib.hid (parts_end hp)
      go_wp2
      go_ret
      exact ⟨ret_i64 (by rw [He.out]), n, rfl⟩

/-- What order.search tells. -/
def upper (l : List Int) (x : Int) : Int := if stepsB (fun a b => decide (a ≤ b)) l = true then (l.findIdx fun y => decide (x < y) : Nat) else -1

set_option maxHeartbeats 400000 in
theorem upper_search (vl : Value) (l : List Int) (x : Int) (g : Nat) (w : World) {P : Nat → Prop} (hl : Sl ic 1 w vl l P) (hsz : l.length ≤ 1048576) (hx : w.cell? ⟨g, 0, none⟩ = some (.int .i64 x)) :
    Calls Try.prog 32 #[vl, .func (.func 34) #[] #[.pointer (some ⟨g, 0, none⟩)]] w (Quiet (.int .i64 (upper l x)) w) := by
  have H := Lib.hid (steps_le vl l w hl hsz)
  cases hb : stepsB (fun a b => decide (a ≤ b)) l
  · have hf : upper l x = -1 := by unfold upper; rw [hb]; rfl
    rw [hf]
    clear hf
    go_enter Try.func32, Try.ntmps32
    go_wp2_with (go_at_call 35; refine H.out.mono ?_; rintro e w' ⟨rfl, n, rfl⟩)
    go_ret
    exact ⟨rfl, n, rfl⟩
  · have hf : upper l x = (l.findIdx fun y => decide (x < y) : Nat) := by unfold upper; rw [if_pos hb]
    rw [hf]
    clear hf
    have Hb := Lib.hid hb
    go_enter Try.func32, Try.ntmps32
    go_wp2_with (first | (go_at_call 35; refine H.out.mono ?_; rintro e w' ⟨rfl, n, rfl⟩) | (go_at_call 39; refine (first_gt vl l x g _ (hl.drewN _) hsz hx Hb.out).mono ?_; rintro e w' ⟨rfl, n2, rfl⟩))
    go_ret
    exact ⟨rfl, n + n2, by first | rfl | exact World.drewN_drewN _ _ _⟩

set_option maxHeartbeats 400000 in
theorem upper_any (vl : Value) (l : List Int) (x : Int) (w : World) {P : Nat → Prop} (hl : Sl ic 1 w vl l P) (hsz : l.length ≤ 1048576) :
    Calls Try.prog 18 #[vl, .int .i64 x] w fun e w' => e = .returned (.int .i64 (upper l x)) ∧ Below w.heap.size w w' := by
  go_enter Try.func18, Try.ntmps18
  go_wp2_with (go_at_call 32; refine (upper_search vl l x w.heap.size _ (hl.alloc _) hsz (by simp)).mono ?_; rintro e w' ⟨rfl, n, rfl⟩)
  go_ret
  exact ⟨rfl, below_drewN ((Below.refl _ _).alloc (Nat.le_refl _) _) n⟩

end Go.Proofs.Ytjlnbeeffdallaa
