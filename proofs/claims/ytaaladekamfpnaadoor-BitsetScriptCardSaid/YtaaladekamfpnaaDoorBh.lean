/- The walks of bitset.Set's Has, Width, turn, Put, Take. -/
import Derived.Test.YtaaladekamfpnaaDoorBw
namespace Go.Proofs.YtaaladekamfpnaaDoor
open Go.RowKit Bs

set_option maxHeartbeats 1000000 in
theorem has_in (w : World) (lo hi p : Nat) (l : List Bool) (i : Nat) (h : BSet w lo hi p l) (hi_ : i < l.length) :
    Calls Tryd.prog 18 #[.pointer (some ⟨p, 0, none⟩), .int .i64 (i : Int)] w fun e w' => e = .returned (.bool (at_ l i)) ∧ w = w' := by
  obtain ⟨A, cap, ws, c0, c1, hc1, hc2, hwd, hW, _, _⟩ := h.open_
  have hk := hwd.idx hi_
  obtain ⟨g, rfl, _, _, cw, _⟩ := hW.word hk
  have hbit := hwd.has hi_
  rw [← at_lt hi_] at hbit
  have q1 : (0 : Int) ≤ (i : Int) := by omega
  have q2 : (i : Int) < (l.length : Int) := by omega
  have q3 : (i : Int) ≤ 1048576 := by have := h.le; omega
  have hx := hwd.lt hk
  generalize hxx : ws[i / 64] = x at *
  have e1 : (i : Int) / 64 = ((i / 64 : Nat) : Int) := by omega
  have e2 : (i : Int) % 64 = ((i % 64 : Nat) : Int) := by omega
  have hj : i % 64 < 64 := Nat.mod_lt _ (by decide)
  generalize i / 64 = k at *
  generalize i % 64 = j at *
  have q4 : (k : Int) < (ws.length : Int) := by omega
  have q5 : (0 : Int) ≤ (k : Int) := by omega
  have q6 : (0 : Int) ≤ (j : Int) := by omega
  have Hbit := Lib.hid hbit
  clear hbit hxx hwd hW
  go_enter Tryd.func18, Tryd.ntmps18
  go_wp2
  go_ret
  exact ⟨ret_bool (by rw [← Hbit.out]; exact has_form x j hx), rfl⟩

set_option maxHeartbeats 400000 in
theorem has_out (w : World) (lo hi p : Nat) (l : List Bool) (i : Int) (h : BSet w lo hi p l) (hi_ : i < 0 ∨ (l.length : Int) ≤ i) :
    Calls Tryd.prog 18 #[.pointer (some ⟨p, 0, none⟩), .int .i64 i] w fun e w' => e = .returned (.bool false) ∧ w = w' := by
  obtain ⟨A, cap, ws, c0, c1, hc1, hc2, hwd, hW, _, _⟩ := h.open_
  clear hwd hW
  by_cases h0 : i < 0
  · have d : decide (0 ≤ i) = false := decide_eq_false (by omega)
    clear hi_
    go_enter Tryd.func18, Tryd.ntmps18
    go_wp2
    go_ret
    exact ⟨rfl, rfl⟩
  · have d : 0 ≤ i := by omega
    have d2 : decide (i < (l.length : Int)) = false := decide_eq_false (by omega)
    clear hi_ h0
    go_enter Tryd.func18, Tryd.ntmps18
    go_wp2
    go_ret
    exact ⟨rfl, rfl⟩
set_option maxHeartbeats 400000 in
theorem has_nil (w : World) (i : Int) : Calls Tryd.prog 18 #[.pointer none, .int .i64 i] w fun e w' => e = .returned (.bool false) ∧ w = w' := by
  go_enter Tryd.func18, Tryd.ntmps18
  go_wp2
  go_ret
  exact ⟨rfl, rfl⟩
set_option maxHeartbeats 400000 in
theorem width_any (w : World) (lo hi p : Nat) (l : List Bool) (h : BSet w lo hi p l) :
    Calls Tryd.prog 16 #[.pointer (some ⟨p, 0, none⟩)] w fun e w' => e = .returned (.int .i64 (l.length : Int)) ∧ w = w' := by
  obtain ⟨A, cap, ws, c0, c1, hc1, hc2, hwd, hW, _, _⟩ := h.open_
  clear hwd hW
  go_enter Tryd.func16, Tryd.ntmps16
  go_wp2
  go_ret
  exact ⟨rfl, rfl⟩
set_option maxHeartbeats 400000 in
theorem width_nil (w : World) : Calls Tryd.prog 16 #[.pointer none] w fun e w' => e = .returned (.int .i64 0) ∧ w = w' := by
  go_enter Tryd.func16, Tryd.ntmps16
  go_wp2
  go_ret
  exact ⟨rfl, rfl⟩

/-! turn, Put, Take -/
set_option maxHeartbeats 400000 in
theorem turn_nil (w : World) (i : Int) (b : Bool) : Calls Tryd.prog 38 #[.pointer none, .int .i64 i, .bool b] w fun e w' => e = .returned (.tuple #[.bool false, .int .i64 1]) ∧ w = w' := by
  go_enter Tryd.func38, Tryd.ntmps38
  go_wp2
  go_ret2
  exact ⟨rfl, rfl⟩
set_option maxHeartbeats 400000 in
theorem turn_out (w : World) (lo hi p : Nat) (l : List Bool) (i : Int) (b : Bool) (h : BSet w lo hi p l) (hi_ : i < 0 ∨ (l.length : Int) ≤ i) :
    Calls Tryd.prog 38 #[.pointer (some ⟨p, 0, none⟩), .int .i64 i, .bool b] w fun e w' => e = .returned (.tuple #[.bool false, .int .i64 2]) ∧ w = w' := by
  obtain ⟨A, cap, ws, c0, c1, hc1, hc2, hwd, hW, _, _⟩ := h.open_
  clear hwd hW
  by_cases h0 : i < 0
  · have d : decide (i < 0) = true := decide_eq_true h0
    clear hi_
    go_enter Tryd.func38, Tryd.ntmps38
    go_wp2
    go_ret2
    exact ⟨rfl, rfl⟩
  · have d : decide (i < 0) = false := decide_eq_false h0
    have d1 : 0 ≤ i := by omega
    have d2 : decide ((l.length : Int) ≤ i) = true := decide_eq_true (by omega)
    clear hi_ h0
    go_enter Tryd.func38, Tryd.ntmps38
    go_wp2
    go_ret2
    exact ⟨rfl, rfl⟩
set_option maxHeartbeats 1000000 in
theorem turn_same (w : World) (lo hi p : Nat) (l : List Bool) (i : Nat) (b : Bool) (h : BSet w lo hi p l) (hi_ : i < l.length) (hb : at_ l i = b) :
    Calls Tryd.prog 38 #[.pointer (some ⟨p, 0, none⟩), .int .i64 (i : Int), .bool b] w fun e w' => e = .returned (.tuple #[.bool false, .int .i64 0]) ∧ w = w' := by
  obtain ⟨A, cap, ws, c0, c1, hc1, hc2, hwd, hW, _, _⟩ := h.open_
  have H := Lib.hid (has_in w lo hi p l i h hi_)
  rw [hb] at H
  have q1 : (0 : Int) ≤ (i : Int) := by omega
  have q2 : (i : Int) < (l.length : Int) := by omega
  have d : decide ((i : Int) < 0) = false := decide_eq_false (by omega)
  have d2 : decide (l.length ≤ i) = false := decide_eq_false (by omega)
  have d3 : (b == b) = true := by cases b <;> rfl
  clear hwd hW hb
  go_enter Tryd.func38, Tryd.ntmps38
  go_wp2_with (go_at_call 18; refine H.out.mono ?_; rintro e w' ⟨rfl, rfl⟩)
  go_ret2
  exact ⟨rfl, rfl⟩
set_option maxHeartbeats 1000000 in
theorem turn_new (w : World) (lo hi p : Nat) (l : List Bool) (i : Nat) (b : Bool) (h : BSet w lo hi p l) (hi_ : i < l.length) (hb : at_ l i = !b) :
    Calls Tryd.prog 38 #[.pointer (some ⟨p, 0, none⟩), .int .i64 (i : Int), .bool b] w fun e w' => e = .returned (.tuple #[.bool true, .int .i64 0]) ∧ BSet w' lo hi p (l.set i b) ∧ Chg lo hi w w' := by
  obtain ⟨A, cap, ws, c0, c1, hc1, hc2, hwd, hW, _, _⟩ := h.open_
  have H := Lib.hid (has_in w lo hi p l i h hi_)
  rw [hb] at H
  have hk := hwd.idx hi_
  obtain ⟨g, rfl, g1, g2, cw, cf⟩ := hW.word hk
  have HS := Lib.hid (h.store hi_ b (by rw [← at_lt hi_]; exact hb) c1)
  have q1 : (0 : Int) ≤ (i : Int) := by omega
  have q2 : (i : Int) < (l.length : Int) := by omega
  have q3 : (i : Int) ≤ 1048576 := by have := h.le; omega
  have hx := hwd.lt hk
  generalize hxx : ws[i / 64] = x at *
  have e1 : (i : Int) / 64 = ((i / 64 : Nat) : Int) := by omega
  have e2 : (i : Int) % 64 = ((i % 64 : Nat) : Int) := by omega
  have hj : i % 64 < 64 := Nat.mod_lt _ (by decide)
  generalize i / 64 = k at *
  generalize i % 64 = j at *
  have q4 : (k : Int) < (ws.length : Int) := by omega
  have q5 : (0 : Int) ≤ (k : Int) := by omega
  have q6 : (0 : Int) ≤ (j : Int) := by omega
  have d : decide ((i : Int) < 0) = false := decide_eq_false (by omega)
  have d2 : decide (l.length ≤ i) = false := decide_eq_false (by omega)
  have d3 : ((!b) == b) = false := by cases b <;> rfl
  clear hwd hW hb hxx
  go_enter Tryd.func38, Tryd.ntmps38
  go_wp2_with (go_at_call 18; refine H.out.mono ?_; rintro e w' ⟨rfl, rfl⟩)
  go_region
  go_wp2
  go_ret2
  refine ⟨rfl, ?_⟩
  rw [wrap_pow j hj, xor_form x j hx hj]
  have c := (HS.out 0 x cw).2
  exact ⟨(HS.out 0 x cw).1, c.os, c.tape, c.output, c.size, c.block⟩

set_option maxHeartbeats 400000 in
theorem put_of {Q : Ending → World → Prop} (w : World) (p : Value) (i : Int) (h : Calls Tryd.prog 38 #[p, .int .i64 i, .bool true] w Q) (hQ : ∀ e w', Q e w' → ∃ a b, e = .returned (.tuple #[.bool a, .int .i64 b])) : Calls Tryd.prog 12 #[p, .int .i64 i] w Q := by
  have H := Lib.hid h
  have HQ := Lib.hid hQ
  clear h hQ
  go_enter Tryd.func12, Tryd.ntmps12
  go_wp2_with (go_at_call 38; refine H.out.mono ?_; intro e w' hq; obtain ⟨a, b, rfl⟩ := HQ.out e w' hq; have hq' := Lib.hid hq; clear hq)
  exact hq'.out
set_option maxHeartbeats 400000 in
theorem take_of {Q : Ending → World → Prop} (w : World) (p : Value) (i : Int) (h : Calls Tryd.prog 38 #[p, .int .i64 i, .bool false] w Q) (hQ : ∀ e w', Q e w' → ∃ a b, e = .returned (.tuple #[.bool a, .int .i64 b])) : Calls Tryd.prog 20 #[p, .int .i64 i] w Q := by
  have H := Lib.hid h
  have HQ := Lib.hid hQ
  clear h hQ
  go_enter Tryd.func20, Tryd.ntmps20
  go_wp2_with (go_at_call 38; refine H.out.mono ?_; intro e w' hq; obtain ⟨a, b, rfl⟩ := HQ.out e w' hq; have hq' := Lib.hid hq; clear hq)
  exact hq'.out
end Go.Proofs.YtaaladekamfpnaaDoor
