/- sheet.Check's predicates, and slices.ContainsFunc with each. Printed by wip/bin/gencf.py. -/
import Derived.Test.YtmihinhbcncbfaaGreatDoorSy
namespace Go.Proofs.YtmihinhbcncbfaaGreatDoor
open Go.RowKit

theorem within_any (w : World) (a b c : Int) : Calls Tryz.prog 108 #[.int .i64 a, .int .i64 b, .int .i64 c] w fun e w' => e = .returned (.bool (decide (a ≤ b ∧ b ≤ c))) ∧ w = w' := by
  by_cases h : b < a
  · have e : decide (a ≤ b ∧ b ≤ c) = false := decide_eq_false (by omega)
    rw [e]
    have h1 : decide (b < a) = true := decide_eq_true h
    go_enter Tryz.func108, Tryz.ntmps108
    go_wp2
    go_ret
    exact ⟨rfl, rfl⟩
  · have e : decide (a ≤ b ∧ b ≤ c) = decide (b ≤ c) := decide_eq_decide.2 (by omega)
    rw [e]
    have h1 : decide (b < a) = false := decide_eq_false h
    go_enter Tryz.func108, Tryz.ntmps108
    go_wp2
    go_ret
    exact ⟨rfl, rfl⟩
theorem tcheck_any (w : World) (n : Int) : Calls Tryz.prog 75 #[.int .i64 n] w fun e w' => e = .returned (.int .i64 (if okN n = true then 0 else 9)) ∧ w = w' := by
  have HW := Lib.hid (within_any w 0 n 1099511627776)
  have E : okN n = decide (0 ≤ n ∧ n ≤ 1099511627776) := rfl
  rw [← E] at HW
  clear E
  cases h : okN n
  · rw [h] at HW
    go_enter Tryz.func75, Tryz.ntmps75
    go_wp2_with fail
    refine HW.out.mono ?_
    rintro e w' ⟨rfl, rfl⟩
    go_wp2_with fail
    go_ret
    exact ⟨rfl, rfl⟩
  · rw [h] at HW
    go_enter Tryz.func75, Tryz.ntmps75
    go_wp2_with fail
    refine HW.out.mono ?_
    rintro e w' ⟨rfl, rfl⟩
    go_wp2_with fail
    go_ret
    exact ⟨rfl, rfl⟩
theorem pred_str (w : World) (s : List UInt8) (hs : s.length ≤ maxLen) (hT : Tabs w) : Calls Tryz.prog 70 #[.string (ba s)] w fun e w' => e = .returned (.bool (!Nm.name s)) ∧ Below w.heap.size w w' := by
  have HN := lname_any (ba s) w (by rw [ba_size]; exact hs) hT
  rw [ba_list] at HN
  have HH := Lib.hid HN
  clear HN hT
  go_enter Tryz.func70, Tryz.ntmps70
  go_wp2_with fail
  refine HH.out.mono ?_
  rintro e w1 ⟨rfl, hb⟩
  have HB := Lib.hid hb
  clear hb
  go_wp2_with fail
  go_ret
  exact ⟨rfl, HB.out⟩
theorem pred_i64 (w : World) (n : Int) : Calls Tryz.prog 74 #[.int .i64 n] w fun e w' => e = .returned (.bool (!okN n)) ∧ Below w.heap.size w w' := by
  have HH := Lib.hid (tcheck_any w n)
  cases h : okN n
  · rw [h] at HH
    go_enter Tryz.func74, Tryz.ntmps74
    go_wp2_with fail
    refine HH.out.mono ?_
    rintro e w1 ⟨rfl, rfl⟩
    go_wp2_with fail
    go_ret
    exact ⟨rfl, Below.refl _ _⟩
  · rw [h] at HH
    go_enter Tryz.func74, Tryz.ntmps74
    go_wp2_with fail
    refine HH.out.mono ?_
    rintro e w1 ⟨rfl, rfl⟩
    go_wp2_with fail
    go_ret
    exact ⟨rfl, Below.refl _ _⟩
set_option maxHeartbeats 1000000 in
theorem pred_route (w : World) (r : RouteM) {P : Nat → Prop} (hg : r.Good w P) (h1 : r.stops.length ≤ 1000) :
    Calls Tryz.prog 77 #[.agg (rc r).toArray] w fun e w' => e = .returned (.bool (!okR r.d)) ∧ Below w.heap.size w w' := by
  obtain ⟨As, cs, es, _, _⟩ := hg.stops.shape
  obtain ⟨Ar, cr, er, _, _⟩ := hg.rides.shape
  obtain ⟨Ay, cy, ey, _, _⟩ := hg.stays.shape
  obtain ⟨w1, hw1⟩ : ∃ w1, w.alloc (.cells (rc r).toArray 38) = w1 := ⟨_, rfl⟩
  have hS1 : RouteAt w.heap.size r w1 := by rw [← hw1]; exact RouteAt.of (heap_alloc_new _ _)
  have HB1 := Lib.hid (show Below w.heap.size w w1 by rw [← hw1]; exact (Below.refl _ _).alloc (Nat.le_refl _) _)
  obtain ⟨_, c1, c2, c3⟩ := hS1
  have eok : okR r.d = decide (2 ≤ r.stops.length ∧ r.stops.length ≤ 32 ∧ r.rides.length + 1 = r.stops.length ∧ r.stays.length + 2 = r.stops.length) := rfl
  rw [eok]
  clear eok hg
  unfold rc at hw1
  unfold rc
  rw [es, er, ey] at hw1
  rw [es, er, ey]
  rw [es] at c1
  rw [er] at c2
  rw [ey] at c3
  clear es er ey
  generalize r.stops.length = n at *
  generalize r.rides.length = m at *
  generalize r.stays.length = q at *
  by_cases a1 : n < 2
  · rw [decide_eq_false (show ¬ (2 ≤ n ∧ n ≤ 32 ∧ m + 1 = n ∧ q + 2 = n) by omega)]
    have b1 : decide ((n : Int) < 2) = true := decide_eq_true (by omega)
    have b1' : decide (n < 2) = true := decide_eq_true a1
    go_enter Tryz.func77, Tryz.ntmps77
    go_wp2_with fail
    go_ret
    first | exact ⟨rfl, HB1.out⟩ | exact ⟨ret_bool (by assumption), HB1.out⟩
  have b1 : decide ((n : Int) < 2) = false := decide_eq_false (by omega)
  have b1' : decide (n < 2) = false := decide_eq_false a1
  by_cases a2 : 32 < n
  · rw [decide_eq_false (show ¬ (2 ≤ n ∧ n ≤ 32 ∧ m + 1 = n ∧ q + 2 = n) by omega)]
    have b2 : decide ((32 : Int) < (n : Int)) = true := decide_eq_true (by omega)
    have b2' : decide (32 < n) = true := decide_eq_true a2
    go_enter Tryz.func77, Tryz.ntmps77
    go_wp2_with fail
    go_ret
    first | exact ⟨rfl, HB1.out⟩ | exact ⟨ret_bool (by assumption), HB1.out⟩
  have b2 : decide ((32 : Int) < (n : Int)) = false := decide_eq_false (by omega)
  have b2' : decide (32 < n) = false := decide_eq_false a2
  obtain ⟨j, hj⟩ : ∃ j : Nat, n = j + 2 := ⟨n - 2, by omega⟩
  have e1 : (n : Int) - 1 = ((j : Int) + 1) := by omega
  have e2 : (n : Int) - 2 = (j : Int) := by omega
  by_cases a3 : m + 1 = n
  · by_cases a4 : q + 2 = n
    · rw [decide_eq_true (show 2 ≤ n ∧ n ≤ 32 ∧ m + 1 = n ∧ q + 2 = n by omega)]
      have b3 : ((m : Int) == ((j : Int) + 1)) = true := beq_iff_eq.2 (by omega)
      have b4 : ((q : Int) == (j : Int)) = true := beq_iff_eq.2 (by omega)
      have b5 : ((m : Int) != ((j : Int) + 1)) = false := by rw [bne, b3]; rfl
      have b6 : ((q : Int) != (j : Int)) = false := by rw [bne, b4]; rfl
      clear hj a3 a4
      go_enter Tryz.func77, Tryz.ntmps77
      go_wp2_with fail
      go_ret
      first | exact ⟨rfl, HB1.out⟩ | exact ⟨ret_bool (by assumption), HB1.out⟩
    · rw [decide_eq_false (show ¬ (2 ≤ n ∧ n ≤ 32 ∧ m + 1 = n ∧ q + 2 = n) by omega)]
      have b3 : ((m : Int) == ((j : Int) + 1)) = true := beq_iff_eq.2 (by omega)
      have b4 : ((q : Int) == (j : Int)) = false := beq_eq_false_iff_ne.2 (by omega)
      have b5 : ((m : Int) != ((j : Int) + 1)) = false := by rw [bne, b3]; rfl
      have b6 : ((q : Int) != (j : Int)) = true := by rw [bne, b4]; rfl
      clear hj a3 a4
      go_enter Tryz.func77, Tryz.ntmps77
      go_wp2_with fail
      go_ret
      first | exact ⟨rfl, HB1.out⟩ | exact ⟨ret_bool (by assumption), HB1.out⟩
  · rw [decide_eq_false (show ¬ (2 ≤ n ∧ n ≤ 32 ∧ m + 1 = n ∧ q + 2 = n) by omega)]
    have b3 : ((m : Int) == ((j : Int) + 1)) = false := beq_eq_false_iff_ne.2 (by omega)
    have b5 : ((m : Int) != ((j : Int) + 1)) = true := by rw [bne, b3]; rfl
    clear hj a3
    go_enter Tryz.func77, Tryz.ntmps77
    go_wp2_with fail
    go_ret
    first | exact ⟨rfl, HB1.out⟩ | exact ⟨ret_bool (by assumption), HB1.out⟩
end Go.Proofs.YtmihinhbcncbfaaGreatDoor
