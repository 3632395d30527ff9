/- The walks of timetableref03.Set's Next, List, New, Clear, Clone, Same; of bitset.Set's Next below 0, and Clear. -/
import Derived.Test.YtaaladekamfpnaaDoorBt
namespace Go.Proofs.YtaaladekamfpnaaDoor
open Go.RowKit Bs

set_option maxHeartbeats 1000000 in
theorem rnext_nat (w : World) (p g : Nat) (l : List Bool) (i0 : Nat) (h : RSet w p g l) (hpos : 0 < i0) : Calls Tryd.prog 35 #[.pointer (some ⟨p, 0, none⟩), .int .i64 (i0 : Int)] w fun e w' => e = .returned (.int .i64 (next l i0)) ∧ w = w' := by
  obtain ⟨cap, c0, _, _⟩ := h.open_
  have q0 : (0 : Int) < (i0 : Int) := by omega
  have Hst := Lib.hid (show Value.int .i64 (i0 : Int) = .int .i64 (i0 : Int) from rfl)
  go_enter Tryd.func35, Tryd.ntmps35
  go_wp2
  go_loop [5] (fun s5 => ∃ k : Nat, s5 = .int .i64 (k : Int) ∧ i0 ≤ k ∧ Hid (∀ j, i0 ≤ j → j < k → at_ l j = false)) (fun s5 => l.length - (intOf s5).toNat)
  case atStart => exact ⟨i0, by first | rfl | exact Hst.out, Nat.le_refl _, Lib.hid fun j a b => absurd b (by omega)⟩
  case round =>
    obtain ⟨k, rfl, hk, hno⟩ := hrel
    by_cases hlt : k < l.length
    · obtain ⟨c1, _⟩ := h.bit hlt
      have q1 : (0 : Int) ≤ (k : Int) := by omega
      have q2 : (k : Int) < (l.length : Int) := by omega
      cases hb : at_ l k
      · rw [hb] at c1
        have HN := Lib.hid (show ∀ j, i0 ≤ j → j < k + 1 → at_ l j = false from fun j a b => by
          by_cases e : j = k
          · rw [e]; exact hb
          · exact hno.out j a (by omega))
        have q3 := h.le
        clear hb
        go_wp2
        go_round
        case rel => exact ⟨k + 1, by go_num, by omega, HN⟩
        case measure => simp [intOf]; omega
      · rw [hb] at c1
        have HN := Lib.hid (Nx.eq (l := l) (i := i0) (r := (k : Int)) (.inr ⟨k, rfl, hk, hb, hno.out⟩))
        clear hb
        go_wp2
        go_ret
        exact ⟨ret_i64 HN.out, rfl⟩
    · have HN := Lib.hid (Nx.eq (l := l) (i := i0) (r := -1) (.inl ⟨rfl, fun j a => by
        by_cases e : j < k
        · exact hno.out j a e
        · exact at_ge (by omega)⟩))
      go_wp2
      go_ret
      exact ⟨ret_i64 HN.out, rfl⟩
set_option maxHeartbeats 1000000 in
theorem rnext_neg (w : World) (p g : Nat) (l : List Bool) (i : Int) (h : RSet w p g l) (hi : i ≤ 0) : Calls Tryd.prog 35 #[.pointer (some ⟨p, 0, none⟩), .int .i64 i] w fun e w' => e = .returned (.int .i64 (next l 0)) ∧ w = w' := by
  obtain ⟨cap, c0, _, _⟩ := h.open_
  obtain ⟨i0, hi0⟩ : ∃ i0 : Nat, i0 = 0 := ⟨_, rfl⟩
  have Hst := Lib.hid (show Value.int .i64 0 = .int .i64 (i0 : Int) by rw [hi0]; rfl)
  have hQ : ∀ (e : Ending) (w' : World), (e = .returned (.int .i64 (next l i0)) ∧ w = w') → (e = .returned (.int .i64 (next l 0)) ∧ w = w') := fun e w' hh => by rw [hi0] at hh; exact hh
  refine Calls.mono ?_ hQ
  clear hi0 hQ
  go_enter Tryd.func35, Tryd.ntmps35
  go_wp2
  go_loop [5] (fun s5 => ∃ k : Nat, s5 = .int .i64 (k : Int) ∧ i0 ≤ k ∧ Hid (∀ j, i0 ≤ j → j < k → at_ l j = false)) (fun s5 => l.length - (intOf s5).toNat)
  case atStart => exact ⟨i0, by first | rfl | exact Hst.out, Nat.le_refl _, Lib.hid fun j a b => absurd b (by omega)⟩
  case round =>
    obtain ⟨k, rfl, hk, hno⟩ := hrel
    by_cases hlt : k < l.length
    · obtain ⟨c1, _⟩ := h.bit hlt
      have q1 : (0 : Int) ≤ (k : Int) := by omega
      have q2 : (k : Int) < (l.length : Int) := by omega
      cases hb : at_ l k
      · rw [hb] at c1
        have HN := Lib.hid (show ∀ j, i0 ≤ j → j < k + 1 → at_ l j = false from fun j a b => by
          by_cases e : j = k
          · rw [e]; exact hb
          · exact hno.out j a (by omega))
        have q3 := h.le
        clear hb
        go_wp2
        go_round
        case rel => exact ⟨k + 1, by go_num, by omega, HN⟩
        case measure => simp [intOf]; omega
      · rw [hb] at c1
        have HN := Lib.hid (Nx.eq (l := l) (i := i0) (r := (k : Int)) (.inr ⟨k, rfl, hk, hb, hno.out⟩))
        clear hb
        go_wp2
        go_ret
        exact ⟨ret_i64 HN.out, rfl⟩
    · have HN := Lib.hid (Nx.eq (l := l) (i := i0) (r := -1) (.inl ⟨rfl, fun j a => by
        by_cases e : j < k
        · exact hno.out j a e
        · exact at_ge (by omega)⟩))
      go_wp2
      go_ret
      exact ⟨ret_i64 HN.out, rfl⟩
theorem rnext_any (w : World) (p g : Nat) (l : List Bool) (i : Int) (h : RSet w p g l) : Calls Tryd.prog 35 #[.pointer (some ⟨p, 0, none⟩), .int .i64 i] w fun e w' => e = .returned (.int .i64 (next l i.toNat)) ∧ w = w' := by
  by_cases h0 : i ≤ 0
  · have := rnext_neg w p g l i h h0
    rwa [show i.toNat = 0 by omega]
  · obtain ⟨k, rfl⟩ := Int.eq_ofNat_of_zero_le (show 0 ≤ i by omega)
    exact rnext_nat w p g l k h (by omega)

/-! List -/
set_option maxHeartbeats 1000000 in
theorem rlist_any (w : World) (p g : Nat) (l : List Bool) (h : RSet w p g l) : Calls Tryd.prog 34 #[.pointer (some ⟨p, 0, none⟩)] w (Made ic 1 3 (lst l) w) := by
  obtain ⟨i0, hi0, hz0, hz1, hz2⟩ := info_parts info_int
  go_enter Tryd.func34, Tryd.ntmps34
  go_wp2
  go_loopw [3, 4] (fun s3 s4 wr => ∃ k : Nat, k ≤ l.length ∧ s4 = .int .i64 (k : Int) ∧ Ow ic 1 wr w.heap.size 3 s3 (upTo l k) ∧ Below w.heap.size w wr) (fun _ s4 _ => l.length - (intOf s4).toNat)
  case atStart => exact ⟨0, Nat.zero_le _, rfl, Ow.nil_, Below.refl _ _⟩
  case round =>
    obtain ⟨k, hk, rfl, hown, hbel⟩ := hrel
    have hr := h.below_ hbel
    obtain ⟨cap, c0, _, _⟩ := hr.open_
    by_cases hlt : k < l.length
    · obtain ⟨c1, _⟩ := hr.bit hlt
      have q1 : (0 : Int) ≤ (k : Int) := by omega
      have q2 : (k : Int) < (l.length : Int) := by omega
      have q3 := h.le
      have hlen := upTo_length_le l k
      have hzw := hbel.size
      cases hb : at_ l k
      · rw [hb] at c1
        have HS := Lib.hid (show upTo l (k + 1) = upTo l k by rw [upTo_succ, hb]; simp)
        clear hb
        have R : ∃ k' : Nat, k' ≤ l.length ∧ Value.int .i64 ((k : Int) + 1) = .int .i64 (k' : Int) ∧ Ow ic 1 wr w.heap.size 3 _ (upTo l k') ∧ Below w.heap.size w wr := ⟨k + 1, hlt, by go_num, by rw [HS.out]; exact hown, hbel⟩
        have HR := Lib.hid R
        clear R
        go_wp2
        have R := HR.out
        go_roundw
        case rel => first | exact R | ((repeat apply Exists.intro); exact ⟨R, rfl⟩)
        case measure => simp [intOf]; omega
      · rw [hb] at c1
        have HS := Lib.hid (show upTo l (k + 1) = upTo l k ++ [(k : Int)] by rw [upTo_succ, if_pos hb])
        clear hb
        generalize hol : upTo l k = ol at *
        clear hol
        go_wp2_with (at_builtin; refine wpList_append_sl _ rfl _ _ _ rfl w.heap.size 3 i0 _ 8 Tryd.underlying22 hi0 hz0 hz1 hz2 rfl (by omega) ic_len ic_one _ _ ol [(k : Int)] rfl rfl (hown.alloc _) (Sl.new1 (k : Int) (by first | rfl | simp)) (by simp only [maxLen, List.length_cons, List.length_nil]; omega) (by simp only [List.length_cons, List.length_nil]; omega) (by simp; omega) ?_; intro v1 w1 hown1 hg1 hmv1)
        have hb1 : Below w.heap.size w w1 := (hbel.alloc hzw _).grown hg1 (by simp; omega) fun g hg => (hown.lt hg).1
        have R : ∃ k' : Nat, k' ≤ l.length ∧ Value.int .i64 ((k : Int) + 1) = .int .i64 (k' : Int) ∧ Ow ic 1 w1 w.heap.size 3 v1 (upTo l k') ∧ Below w.heap.size w w1 := ⟨k + 1, hlt, by go_num, by rw [HS.out]; exact hown1, hb1⟩
        go_roundw
        case rel => first | exact R | ((repeat apply Exists.intro); exact ⟨R, rfl⟩)
        case measure => simp [intOf]; omega
    · obtain rfl : k = l.length := by omega
      go_wp2
      go_ret
      exact ⟨_, rfl, hown, hbel⟩

/-! New -/
theorem info_bool : (Tryd.prog.info? 4).map (fun i => (i.zero, i.size, i.bytes)) = some (some (.bool false), 1, 1) := by kernel_rfl
set_option maxHeartbeats 400000 in
theorem rnew_bad (n : Int) (w : World) (h : n < 0 ∨ 1048576 < n) : Calls Tryd.prog 25 #[.int .i64 n] w fun e w' => e = .returned (.tuple #[.pointer none, .int .i64 2]) ∧ w = w' := by
  by_cases h0 : n < 0
  · have d : decide (n < 0) = true := decide_eq_true h0
    clear h
    go_enter Tryd.func25, Tryd.ntmps25
    go_wp2
    go_ret2
    exact ⟨rfl, rfl⟩
  · have d : decide (n < 0) = false := decide_eq_false h0
    have d2 : decide (1048576 < n) = true := decide_eq_true (by omega)
    clear h h0
    go_enter Tryd.func25, Tryd.ntmps25
    go_wp2
    go_ret2
    exact ⟨rfl, rfl⟩
def RNewSet (w : World) (l : List Bool) (e : Ending) (w' : World) : Prop :=
  ∃ p g, e = .returned (.tuple #[.pointer (some ⟨p, 0, none⟩), .int .i64 0]) ∧ RSet w' p g l ∧ w.heap.size ≤ p ∧ w.heap.size ≤ g ∧ Below w.heap.size w w'
theorem fresh_false {n : Nat} (i : Nat) (b : Bool) (h : (List.replicate n false)[i]? = some b) : (madeCells (Value.bool false).cells (n * 1))[i]? = some (.bool b) := by
  rw [List.getElem?_replicate] at h
  split at h
  · rename_i hlt
    injection h with h
    subst h
    rw [← Array.getElem?_toList, show (Value.bool false).cells = #[Value.bool false] from rfl, toList_madeCells_one, List.getElem?_replicate, if_pos (by omega)]
  · cases h
set_option maxHeartbeats 1000000 in
theorem rnew_ok (n : Nat) (w : World) (h : n ≤ 1048576) : Calls Tryd.prog 25 #[.int .i64 (n : Int)] w (RNewSet w (List.replicate n false)) := by
  obtain ⟨i0, hi0, hz0, hz1, hz2⟩ := info_parts info_bool
  have hmk := run_make_fresh (Pr := Tryd.prog) 54 4 i0 _ 1 1 Tryd.underlying54 hi0 hz0 hz1 hz2 n n (by omega) (by omega) (by omega)
  have q1 : (0 : Int) ≤ (n : Int) := by omega
  have q2 : (n : Int) ≤ 1048576 := by omega
  have d1 : decide ((n : Int) < 0) = false := decide_eq_false (by omega)
  have d2 : decide (1048576 < (n : Int)) = false := decide_eq_false (by omega)
  go_enter Tryd.func25, Tryd.ntmps25
  go_wp2
  go_ret2
  have e1 : ∀ o, (w.alloc o).heap.size = w.heap.size + 1 := by simp
  refine ⟨w.heap.size + 1, w.heap.size, rfl, ⟨n, madeCells (Value.bool false).cells (n * 1), ?_, by rw [List.length_replicate]; exact Nat.le_refl _, by unfold maxLen; omega, by rw [List.length_replicate]; exact h, (Below.heap_alloc _ _ _ (by simp)).trans (heap_alloc_new w _), fresh_false⟩, by omega, by omega, ((Below.refl _ _).alloc (Nat.le_refl _) _).alloc (by simp) _⟩
  rw [List.length_replicate, ← e1 (freshRow (.bool false) 1 n 4)]
  exact heap_alloc_new _ _
end Go.Proofs.YtaaladekamfpnaaDoor
