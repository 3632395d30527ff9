/- sheet.Check's predicates, and slices.ContainsFunc with each. Printed by wip/bin/gencf.py. -/
import Derived.Test.YteonefgbdphmiaaGreatDoorSy
namespace Go.Proofs.YteonefgbdphmiaaGreatDoor
open Go.RowKit

theorem within_any (w : World) (a b c : Int) : Calls Tryz.prog 79 #[.int .i64 a, .int .i64 b, .int .i64 c] w fun e w' => e = .returned (.bool (decide (a ≤ b ∧ b ≤ c))) ∧ w = w' := by
  by_cases h : b < a
  · have e : decide (a ≤ b ∧ b ≤ c) = false := decide_eq_false (by omega)
    rw [e]
    have h1 : decide (b < a) = true := decide_eq_true h
    go_enter Tryz.func79, Tryz.ntmps79
    go_wp2
    go_ret
    exact ⟨rfl, rfl⟩
  · have e : decide (a ≤ b ∧ b ≤ c) = decide (b ≤ c) := decide_eq_decide.2 (by omega)
    rw [e]
    have h1 : decide (b < a) = false := decide_eq_false h
    go_enter Tryz.func79, Tryz.ntmps79
    go_wp2
    go_ret
    exact ⟨rfl, rfl⟩
theorem tcheck_any (w : World) (n : Int) : Calls Tryz.prog 51 #[.int .i64 n] w fun e w' => e = .returned (.int .i64 (if okN n = true then 0 else 9)) ∧ w = w' := by
  have HW := Lib.hid (within_any w 0 n 1099511627776)
  have E : okN n = decide (0 ≤ n ∧ n ≤ 1099511627776) := rfl
  rw [← E] at HW
  clear E
  cases h : okN n
  · rw [h] at HW
    go_enter Tryz.func51, Tryz.ntmps51
    go_wp2_with fail
    refine HW.out.mono ?_
    rintro e w' ⟨rfl, rfl⟩
    go_wp2_with fail
    go_ret
    exact ⟨rfl, rfl⟩
  · rw [h] at HW
    go_enter Tryz.func51, Tryz.ntmps51
    go_wp2_with fail
    refine HW.out.mono ?_
    rintro e w' ⟨rfl, rfl⟩
    go_wp2_with fail
    go_ret
    exact ⟨rfl, rfl⟩
theorem pred_str (w : World) (s : List UInt8) (hs : s.length ≤ maxLen) (hT : Tabs w) : Calls Tryz.prog 46 #[.string (ba s)] w fun e w' => e = .returned (.bool (!Nm.name s)) ∧ Below w.heap.size w w' := by
  have HN := lname_any (ba s) w (by rw [ba_size]; exact hs) hT
  rw [ba_list] at HN
  have HH := Lib.hid HN
  clear HN hT
  go_enter Tryz.func46, Tryz.ntmps46
  go_wp2_with fail
  refine HH.out.mono ?_
  rintro e w1 ⟨rfl, hb⟩
  have HB := Lib.hid hb
  clear hb
  go_wp2_with fail
  go_ret
  exact ⟨rfl, HB.out⟩
theorem pred_i64 (w : World) (n : Int) : Calls Tryz.prog 50 #[.int .i64 n] w fun e w' => e = .returned (.bool (!okN n)) ∧ Below w.heap.size w w' := by
  have HH := Lib.hid (tcheck_any w n)
  cases h : okN n
  · rw [h] at HH
    go_enter Tryz.func50, Tryz.ntmps50
    go_wp2_with fail
    refine HH.out.mono ?_
    rintro e w1 ⟨rfl, rfl⟩
    go_wp2_with fail
    go_ret
    exact ⟨rfl, Below.refl _ _⟩
  · rw [h] at HH
    go_enter Tryz.func50, Tryz.ntmps50
    go_wp2_with fail
    refine HH.out.mono ?_
    rintro e w1 ⟨rfl, rfl⟩
    go_wp2_with fail
    go_ret
    exact ⟨rfl, Below.refl _ _⟩
set_option maxHeartbeats 1000000 in
theorem pred_route (w : World) (r : RouteM) {P : Nat → Prop} (hg : r.Good w P) (h1 : r.stops.length ≤ 1000) :
    Calls Tryz.prog 53 #[.agg (rc r).toArray] w fun e w' => e = .returned (.bool (!okR r.d)) ∧ Below w.heap.size w w' := by
  obtain ⟨As, cs, es, _, _⟩ := hg.stops.shape
  obtain ⟨Ar, cr, er, _, _⟩ := hg.rides.shape
  obtain ⟨Ay, cy, ey, _, _⟩ := hg.stays.shape
  obtain ⟨w1, hw1⟩ : ∃ w1, w.alloc (.cells (rc r).toArray 57) = w1 := ⟨_, rfl⟩
  have hS1 : RouteAt w.heap.size r w1 := by rw [← hw1]; exact RouteAt.of (heap_alloc_new _ _)
  have HB1 := Lib.hid (show Below w.heap.size w w1 by rw [← hw1]; exact (Below.refl _ _).alloc (Nat.le_refl _) _)
  obtain ⟨_, c1, c2, c3⟩ := hS1
  have eok : okR r.d = decide (2 ≤ r.stops.length ∧ r.stops.length ≤ 32 ∧ r.rides.length + 1 = r.stops.length ∧ r.stays.length + 2 = r.stops.length) := rfl
  rw [eok]
  clear eok hg
  unfold rc at hw1
  unfold rc
  rw [es, er, ey] at hw1
  rw [es, er, ey]
  rw [es] at c1
  rw [er] at c2
  rw [ey] at c3
  clear es er ey
  generalize r.stops.length = n at *
  generalize r.rides.length = m at *
  generalize r.stays.length = q at *
  by_cases a1 : n < 2
  · rw [decide_eq_false (show ¬ (2 ≤ n ∧ n ≤ 32 ∧ m + 1 = n ∧ q + 2 = n) by omega)]
    have b1 : decide ((n : Int) < 2) = true := decide_eq_true (by omega)
    have b1' : decide (n < 2) = true := decide_eq_true a1
    go_enter Tryz.func53, Tryz.ntmps53
    go_wp2_with fail
    go_ret
    first | exact ⟨rfl, HB1.out⟩ | exact ⟨ret_bool (by assumption), HB1.out⟩
  have b1 : decide ((n : Int) < 2) = false := decide_eq_false (by omega)
  have b1' : decide (n < 2) = false := decide_eq_false a1
  by_cases a2 : 32 < n
  · rw [decide_eq_false (show ¬ (2 ≤ n ∧ n ≤ 32 ∧ m + 1 = n ∧ q + 2 = n) by omega)]
    have b2 : decide ((32 : Int) < (n : Int)) = true := decide_eq_true (by omega)
    have b2' : decide (32 < n) = true := decide_eq_true a2
    go_enter Tryz.func53, Tryz.ntmps53
    go_wp2_with fail
    go_ret
    first | exact ⟨rfl, HB1.out⟩ | exact ⟨ret_bool (by assumption), HB1.out⟩
  have b2 : decide ((32 : Int) < (n : Int)) = false := decide_eq_false (by omega)
  have b2' : decide (32 < n) = false := decide_eq_false a2
  obtain ⟨j, hj⟩ : ∃ j : Nat, n = j + 2 := ⟨n - 2, by omega⟩
  have e1 : (n : Int) - 1 = ((j : Int) + 1) := by omega
  have e2 : (n : Int) - 2 = (j : Int) := by omega
  by_cases a3 : m + 1 = n
  · by_cases a4 : q + 2 = n
    · rw [decide_eq_true (show 2 ≤ n ∧ n ≤ 32 ∧ m + 1 = n ∧ q + 2 = n by omega)]
      have b3 : ((m : Int) == ((j : Int) + 1)) = true := beq_iff_eq.2 (by omega)
      have b4 : ((q : Int) == (j : Int)) = true := beq_iff_eq.2 (by omega)
      have b5 : ((m : Int) != ((j : Int) + 1)) = false := by rw [bne, b3]; rfl
      have b6 : ((q : Int) != (j : Int)) = false := by rw [bne, b4]; rfl
      clear hj a3 a4
      go_enter Tryz.func53, Tryz.ntmps53
      go_wp2_with fail
      go_ret
      first | exact ⟨rfl, HB1.out⟩ | exact ⟨ret_bool (by assumption), HB1.out⟩
    · rw [decide_eq_false (show ¬ (2 ≤ n ∧ n ≤ 32 ∧ m + 1 = n ∧ q + 2 = n) by omega)]
      have b3 : ((m : Int) == ((j : Int) + 1)) = true := beq_iff_eq.2 (by omega)
      have b4 : ((q : Int) == (j : Int)) = false := beq_eq_false_iff_ne.2 (by omega)
      have b5 : ((m : Int) != ((j : Int) + 1)) = false := by rw [bne, b3]; rfl
      have b6 : ((q : Int) != (j : Int)) = true := by rw [bne, b4]; rfl
      clear hj a3 a4
      go_enter Tryz.func53, Tryz.ntmps53
      go_wp2_with fail
      go_ret
      first | exact ⟨rfl, HB1.out⟩ | exact ⟨ret_bool (by assumption), HB1.out⟩
  · rw [decide_eq_false (show ¬ (2 ≤ n ∧ n ≤ 32 ∧ m + 1 = n ∧ q + 2 = n) by omega)]
    have b3 : ((m : Int) == ((j : Int) + 1)) = false := beq_eq_false_iff_ne.2 (by omega)
    have b5 : ((m : Int) != ((j : Int) + 1)) = true := by rw [bne, b3]; rfl
    clear hj a3
    go_enter Tryz.func53, Tryz.ntmps53
    go_wp2_with fail
    go_ret
    first | exact ⟨rfl, HB1.out⟩ | exact ⟨ret_bool (by assumption), HB1.out⟩
end Go.Proofs.YteonefgbdphmiaaGreatDoor
/- slices.ContainsFunc with sheet.Check's predicates. Printed by wip/bin/gencg.py. -/
namespace Go.Proofs.YteonefgbdphmiaaGreatDoor
open Go.RowKit

theorem any_hit {α : Type} {p : α → Bool} {l : List α} {k : Nat} (h : k < l.length) (hp : p l[k] = true) : l.any p = true := List.any_eq_true.2 ⟨_, List.getElem_mem h, hp⟩
theorem any_miss {α : Type} {p : α → Bool} {l : List α} (h : ∀ j (hj : j < l.length), p l[j] = false) : l.any p = false := by
  rw [List.any_eq_false]
  intro x hx
  obtain ⟨j, hj, rfl⟩ := List.getElem_of_mem hx
  rw [h j hj]; simp
set_option maxHeartbeats 1000000 in
theorem idx_str (w : World) (v : Value) (l : List (List UInt8)) {P : Nat → Prop} (hs : Sl nc 1 w v l P) (hn : l.length ≤ 100000000) (hT : Tabs w) (hp : ∀ x ∈ l, x.length ≤ maxLen) :
    Calls Tryz.prog 71 #[v, .func (.func 46) #[] #[]] w fun e w' => (∃ r : Int, e = .returned (.int .i64 r) ∧ decide (0 ≤ r) = l.any (fun s => !Nm.name s)) ∧ Below w.heap.size w w' := by
  obtain ⟨A, cap, rfl, h1, h2⟩ := hs.shape
  have HT := Lib.hid hT
  clear hT
  have HPR := Lib.hid hp
  have HS := Lib.hid hs
  clear hp hs
  go_enter Tryz.func71, Tryz.ntmps71
  go_wp2_with fail
  go_loopg [8] l.length (fun gg s wr => ∃ k : Nat, k ≤ l.length ∧ l.length - k ≤ gg ∧ s = .int .i64 k ∧ Below w.heap.size w wr ∧ Hid (∀ j (hj : j < l.length), j < k → (fun s => !Nm.name s) l[j] = false))
  case atStart => exact ⟨0, Nat.zero_le _, by omega, rfl, Below.refl _ _, Lib.hid fun j _ h => absurd h (Nat.not_lt_zero _)⟩
  case round =>
    obtain ⟨k, hk, hgg, rfl, hb, hall⟩ := hrel
    by_cases hlt : k < l.length
    · obtain ⟨b1, o1, c1, e1, _, _, hl1, _, hxx⟩ := (HS.out.below_ hb).at_ hlt
      injection e1 with e1 e2 e3
      subst e1
      obtain ⟨x, hxe⟩ : ∃ x, l[k] = x := ⟨_, rfl⟩
      have hx := HPR.out _ (List.getElem_mem hlt)
      rw [hxe] at hx hxx
      have hx0 : wr.cell? ⟨b1, o1 + k, none⟩ = some (.string (ba x)) := by simpa using hxx 0 _ rfl
      have HT2 := Lib.hid (HT.out.below hb)
      have HC := pred_str wr x hx HT2.out
      have HB := Lib.hid hb
      have HSZ := Lib.hid (show w.heap.size ≤ wr.heap.size from hb.size)
      have HXE := Lib.hid hxe
      have HCC := Lib.hid HC
      clear HC hb e2 e3 hxx hx hxe
      have q1 : (0 : Int) ≤ (k : Int) := by omega
      have q2 : (k : Int) < (l.length : Int) := by omega
      obtain ⟨q, hq⟩ : ∃ q, (fun s => !Nm.name s) x = q := ⟨_, rfl⟩
      cases q
      · have HQ := Lib.hid hq
        have HC2 := HCC.out
        have hq' := hq
        simp only at hq'
        rw [hq'] at HC2
        replace HCC := Lib.hid HC2
        clear HC2 hq hq'
        go_wp2_with fail
        refine HCC.out.mono ?_
        rintro e w3 ⟨rfl, hb3⟩
        have HB3 := Lib.hid (HB.out.trans (hb3.mono HSZ.out))
        clear hb3
        go_wp2_with fail
        go_roundg (l.length - (k + 1))
        case measure => omega
        case rel =>
          refine ⟨k + 1, by omega, by omega, by go_num, HB3.out, Lib.hid fun j hj h => ?_⟩
          rcases Nat.lt_or_eq_of_le (Nat.le_of_lt_succ h) with h | rfl
          · exact hall.out j hj h
          · rw [HXE.out]; exact HQ.out
      · have HQ := Lib.hid hq
        have HC2 := HCC.out
        have hq' := hq
        simp only at hq'
        rw [hq'] at HC2
        replace HCC := Lib.hid HC2
        clear HC2 hq hq'
        go_wp2_with fail
        refine HCC.out.mono ?_
        rintro e w3 ⟨rfl, hb3⟩
        have HB3 := Lib.hid (HB.out.trans (hb3.mono HSZ.out))
        clear hb3
        go_wp2_with fail
        go_ret
        refine ⟨⟨k, rfl, ?_⟩, HB3.out⟩
        rw [any_hit hlt (by rw [HXE.out]; exact HQ.out)]
        exact decide_eq_true (by omega)
    · have hke : k = l.length := by omega
      have HB := Lib.hid hb
      have HALL := Lib.hid (any_miss (p := (fun s => !Nm.name s)) fun j hj => hall.out j hj (by omega))
      clear hb hall
      go_wp2_with fail
      go_ret
      exact ⟨⟨-1, rfl, by rw [HALL.out]; rfl⟩, HB.out⟩
theorem cont_str (w : World) (v : Value) (l : List (List UInt8)) {P : Nat → Prop} (hs : Sl nc 1 w v l P) (hn : l.length ≤ 100000000) (hT : Tabs w) (hp : ∀ x ∈ l, x.length ≤ maxLen) :
    Calls Tryz.prog 44 #[v, .func (.func 46) #[] #[]] w fun e w' => e = .returned (.bool (l.any (fun s => !Nm.name s))) ∧ Below w.heap.size w w' := by
  have HC := Lib.hid (idx_str w v l hs hn hT hp)
  obtain ⟨A, cap, rfl, h1, h2⟩ := hs.shape
  generalize l.any (fun s => !Nm.name s) = q at *
  clear hp hs
  go_enter Tryz.func44, Tryz.ntmps44
  go_wp2_with fail
  refine HC.out.mono ?_
  rintro e w3 ⟨⟨r, rfl, hr⟩, hb3⟩
  have HB3 := Lib.hid hb3
  have HR := Lib.hid hr
  clear hb3 hr
  go_wp2_with fail
  go_ret
  exact ⟨ret_bool HR.out, HB3.out⟩
set_option maxHeartbeats 1000000 in
theorem idx_i64 (w : World) (v : Value) (l : List Int) {P : Nat → Prop} (hs : Sl ic 1 w v l P) (hn : l.length ≤ 100000000) :
    Calls Tryz.prog 77 #[v, .func (.func 50) #[] #[]] w fun e w' => (∃ r : Int, e = .returned (.int .i64 r) ∧ decide (0 ≤ r) = l.any (fun n => !okN n)) ∧ Below w.heap.size w w' := by
  obtain ⟨A, cap, rfl, h1, h2⟩ := hs.shape
  have HS := Lib.hid hs
  clear hs
  go_enter Tryz.func77, Tryz.ntmps77
  go_wp2_with fail
  go_loopg [8] l.length (fun gg s wr => ∃ k : Nat, k ≤ l.length ∧ l.length - k ≤ gg ∧ s = .int .i64 k ∧ Below w.heap.size w wr ∧ Hid (∀ j (hj : j < l.length), j < k → (fun n => !okN n) l[j] = false))
  case atStart => exact ⟨0, Nat.zero_le _, by omega, rfl, Below.refl _ _, Lib.hid fun j _ h => absurd h (Nat.not_lt_zero _)⟩
  case round =>
    obtain ⟨k, hk, hgg, rfl, hb, hall⟩ := hrel
    by_cases hlt : k < l.length
    · obtain ⟨b1, o1, c1, e1, _, _, hl1, _, hxx⟩ := (HS.out.below_ hb).at_ hlt
      injection e1 with e1 e2 e3
      subst e1
      obtain ⟨x, hxe⟩ : ∃ x, l[k] = x := ⟨_, rfl⟩
      rw [hxe] at hxx
      have hx0 : wr.cell? ⟨b1, o1 + k, none⟩ = some (.int .i64 x) := by simpa using hxx 0 _ rfl
      have HC := pred_i64 wr x
      have HB := Lib.hid hb
      have HSZ := Lib.hid (show w.heap.size ≤ wr.heap.size from hb.size)
      have HXE := Lib.hid hxe
      have HCC := Lib.hid HC
      clear HC hb e2 e3 hxx hxe
      have q1 : (0 : Int) ≤ (k : Int) := by omega
      have q2 : (k : Int) < (l.length : Int) := by omega
      obtain ⟨q, hq⟩ : ∃ q, (fun n => !okN n) x = q := ⟨_, rfl⟩
      cases q
      · have HQ := Lib.hid hq
        have HC2 := HCC.out
        have hq' := hq
        simp only at hq'
        rw [hq'] at HC2
        replace HCC := Lib.hid HC2
        clear HC2 hq hq'
        go_wp2_with fail
        refine HCC.out.mono ?_
        rintro e w3 ⟨rfl, hb3⟩
        have HB3 := Lib.hid (HB.out.trans (hb3.mono HSZ.out))
        clear hb3
        go_wp2_with fail
        go_roundg (l.length - (k + 1))
        case measure => omega
        case rel =>
          refine ⟨k + 1, by omega, by omega, by go_num, HB3.out, Lib.hid fun j hj h => ?_⟩
          rcases Nat.lt_or_eq_of_le (Nat.le_of_lt_succ h) with h | rfl
          · exact hall.out j hj h
          · rw [HXE.out]; exact HQ.out
      · have HQ := Lib.hid hq
        have HC2 := HCC.out
        have hq' := hq
        simp only at hq'
        rw [hq'] at HC2
        replace HCC := Lib.hid HC2
        clear HC2 hq hq'
        go_wp2_with fail
        refine HCC.out.mono ?_
        rintro e w3 ⟨rfl, hb3⟩
        have HB3 := Lib.hid (HB.out.trans (hb3.mono HSZ.out))
        clear hb3
        go_wp2_with fail
        go_ret
        refine ⟨⟨k, rfl, ?_⟩, HB3.out⟩
        rw [any_hit hlt (by rw [HXE.out]; exact HQ.out)]
        exact decide_eq_true (by omega)
    · have hke : k = l.length := by omega
      have HB := Lib.hid hb
      have HALL := Lib.hid (any_miss (p := (fun n => !okN n)) fun j hj => hall.out j hj (by omega))
      clear hb hall
      go_wp2_with fail
      go_ret
      exact ⟨⟨-1, rfl, by rw [HALL.out]; rfl⟩, HB.out⟩
theorem cont_i64 (w : World) (v : Value) (l : List Int) {P : Nat → Prop} (hs : Sl ic 1 w v l P) (hn : l.length ≤ 100000000) :
    Calls Tryz.prog 48 #[v, .func (.func 50) #[] #[]] w fun e w' => e = .returned (.bool (l.any (fun n => !okN n))) ∧ Below w.heap.size w w' := by
  have HC := Lib.hid (idx_i64 w v l hs hn  )
  obtain ⟨A, cap, rfl, h1, h2⟩ := hs.shape
  generalize l.any (fun n => !okN n) = q at *
  clear hs
  go_enter Tryz.func48, Tryz.ntmps48
  go_wp2_with fail
  refine HC.out.mono ?_
  rintro e w3 ⟨⟨r, rfl, hr⟩, hb3⟩
  have HB3 := Lib.hid hb3
  have HR := Lib.hid hr
  clear hb3 hr
  go_wp2_with fail
  go_ret
  exact ⟨ret_bool HR.out, HB3.out⟩
set_option maxHeartbeats 1000000 in
theorem idx_route (w : World) (v : Value) (l : List RouteM) {P : Nat → Prop} (hs : Sl rc 4 w v l P) (hn : l.length ≤ 100000000) (hp : ∀ x ∈ l, x.Good w P ∧ x.stops.length ≤ 1000) :
    Calls Tryz.prog 80 #[v, .func (.func 53) #[] #[]] w fun e w' => (∃ r : Int, e = .returned (.int .i64 r) ∧ decide (0 ≤ r) = l.any (fun r => !okR r.d)) ∧ Below w.heap.size w w' := by
  obtain ⟨A, cap, rfl, h1, h2⟩ := hs.shape
  have HPR := Lib.hid hp
  have HS := Lib.hid hs
  clear hp hs
  go_enter Tryz.func80, Tryz.ntmps80
  go_wp2_with fail
  go_loopg [8] l.length (fun gg s wr => ∃ k : Nat, k ≤ l.length ∧ l.length - k ≤ gg ∧ s = .int .i64 k ∧ Below w.heap.size w wr ∧ Hid (∀ j (hj : j < l.length), j < k → (fun r => !okR r.d) l[j] = false))
  case atStart => exact ⟨0, Nat.zero_le _, by omega, rfl, Below.refl _ _, Lib.hid fun j _ h => absurd h (Nat.not_lt_zero _)⟩
  case round =>
    obtain ⟨k, hk, hgg, rfl, hb, hall⟩ := hrel
    by_cases hlt : k < l.length
    · obtain ⟨b1, o1, c1, e1, _, _, hl1, _, hxx⟩ := (HS.out.below_ hb).at_ hlt
      injection e1 with e1 e2 e3
      subst e1
      obtain ⟨x, hxe⟩ : ∃ x, l[k] = x := ⟨_, rfl⟩
      have hx := HPR.out _ (List.getElem_mem hlt)
      rw [hxe] at hx hxx
      have hx0 : wr.cell? ⟨b1, o1 + k * 4, none⟩ = some (.string (ba x.name)) := by simpa using hxx 0 _ rfl
      have hx1 : wr.cell? ⟨b1, o1 + k * 4 + 1, none⟩ = some (x.vs) := by simpa using hxx 1 _ rfl
      have hx2 : wr.cell? ⟨b1, o1 + k * 4 + 2, none⟩ = some (x.vr) := by simpa using hxx 2 _ rfl
      have hx3 : wr.cell? ⟨b1, o1 + k * 4 + 3, none⟩ = some (x.vy) := by simpa using hxx 3 _ rfl
      obtain ⟨Ax1, cx1, ex1, _, _⟩ := hx.1.stops.shape
      obtain ⟨Ax2, cx2, ex2, _, _⟩ := hx.1.rides.shape
      obtain ⟨Ax3, cx3, ex3, _, _⟩ := hx.1.stays.shape
      rw [ex1] at hx1
      rw [ex2] at hx2
      rw [ex3] at hx3
      have HC := pred_route wr x (hx.1.below_ hb) hx.2
      unfold rc at HC
      rw [ex1, ex2, ex3] at HC
      have HB := Lib.hid hb
      have HSZ := Lib.hid (show w.heap.size ≤ wr.heap.size from hb.size)
      have HXE := Lib.hid hxe
      have HCC := Lib.hid HC
      clear HC hb e2 e3 hxx hx hxe
      have q1 : (0 : Int) ≤ (k : Int) := by omega
      have q2 : (k : Int) < (l.length : Int) := by omega
      obtain ⟨q, hq⟩ : ∃ q, (fun r => !okR r.d) x = q := ⟨_, rfl⟩
      cases q
      · have HQ := Lib.hid hq
        have HC2 := HCC.out
        have hq' := hq
        simp only at hq'
        rw [hq'] at HC2
        replace HCC := Lib.hid HC2
        clear HC2 hq hq'
        go_wp2_with fail
        refine HCC.out.mono ?_
        rintro e w3 ⟨rfl, hb3⟩
        have HB3 := Lib.hid (HB.out.trans (hb3.mono HSZ.out))
        clear hb3
        go_wp2_with fail
        go_roundg (l.length - (k + 1))
        case measure => omega
        case rel =>
          refine ⟨k + 1, by omega, by omega, by go_num, HB3.out, Lib.hid fun j hj h => ?_⟩
          rcases Nat.lt_or_eq_of_le (Nat.le_of_lt_succ h) with h | rfl
          · exact hall.out j hj h
          · rw [HXE.out]; exact HQ.out
      · have HQ := Lib.hid hq
        have HC2 := HCC.out
        have hq' := hq
        simp only at hq'
        rw [hq'] at HC2
        replace HCC := Lib.hid HC2
        clear HC2 hq hq'
        go_wp2_with fail
        refine HCC.out.mono ?_
        rintro e w3 ⟨rfl, hb3⟩
        have HB3 := Lib.hid (HB.out.trans (hb3.mono HSZ.out))
        clear hb3
        go_wp2_with fail
        go_ret
        refine ⟨⟨k, rfl, ?_⟩, HB3.out⟩
        rw [any_hit hlt (by rw [HXE.out]; exact HQ.out)]
        exact decide_eq_true (by omega)
    · have hke : k = l.length := by omega
      have HB := Lib.hid hb
      have HALL := Lib.hid (any_miss (p := (fun r => !okR r.d)) fun j hj => hall.out j hj (by omega))
      clear hb hall
      go_wp2_with fail
      go_ret
      exact ⟨⟨-1, rfl, by rw [HALL.out]; rfl⟩, HB.out⟩
theorem cont_route (w : World) (v : Value) (l : List RouteM) {P : Nat → Prop} (hs : Sl rc 4 w v l P) (hn : l.length ≤ 100000000) (hp : ∀ x ∈ l, x.Good w P ∧ x.stops.length ≤ 1000) :
    Calls Tryz.prog 52 #[v, .func (.func 53) #[] #[]] w fun e w' => e = .returned (.bool (l.any (fun r => !okR r.d))) ∧ Below w.heap.size w w' := by
  have HC := Lib.hid (idx_route w v l hs hn  hp)
  obtain ⟨A, cap, rfl, h1, h2⟩ := hs.shape
  generalize l.any (fun r => !okR r.d) = q at *
  clear hp hs
  go_enter Tryz.func52, Tryz.ntmps52
  go_wp2_with fail
  refine HC.out.mono ?_
  rintro e w3 ⟨⟨r, rfl, hr⟩, hb3⟩
  have HB3 := Lib.hid hb3
  have HR := Lib.hid hr
  clear hb3 hr
  go_wp2_with fail
  go_ret
  exact ⟨ret_bool HR.out, HB3.out⟩
end Go.Proofs.YteonefgbdphmiaaGreatDoor
/- The walk of sheet.Check, at a sheet that is not too long. -/
namespace Go.Proofs.YteonefgbdphmiaaGreatDoor
open Go.RowKit

theorem names_bound (x : SheetM) (hf : x.Few) : (namesD x.d).length ≤ 10000000 := by
  rw [← names_eq, List.length_append]
  have h1 := nm4_len x hf
  have h2 := flat_le (fun h : HazD => [h.name, h.on]) 2 x.hazs (fun _ _ => Nat.le_refl _) 1024 hf.hazs
  omega
theorem nums_bound (x : SheetM) (hf : x.Few) : (numsD x.d).length ≤ 10000000 := by
  rw [← nums_eq, List.length_append]
  have h1 := nn4_len x hf
  have h2 := flat_le (fun h : HazD => timesN h.times) 3 x.hazs (fun _ _ => Nat.le_refl _) 1024 hf.hazs
  omega
theorem any_routes (x : SheetM) : x.d.routes.any (fun r => !okR r) = x.routes.any (fun r => !okR r.d) := by
  show (x.routes.map RouteM.d).any _ = _
  rw [List.any_map]; rfl
theorem not_long {x : SheetM} (h : longD x.d = false) : x.stops.length ≤ 256 ∧ x.paths.length ≤ 1024 ∧ x.doors.length ≤ 256 ∧ x.routes.length ≤ 256 ∧ x.trips.length ≤ 1024 ∧ x.hazs.length ≤ 256 := by
  unfold longD at h
  rw [decide_eq_false_iff_not] at h
  have : x.d.routes.length = x.routes.length := List.length_map ..
  rw [this] at h
  have e1 : x.d.stops = x.stops := rfl
  have e2 : x.d.paths = x.paths := rfl
  have e3 : x.d.doors = x.doors := rfl
  have e4 : x.d.trips = x.trips := rfl
  have e5 : x.d.hazs = x.hazs := rfl
  rw [e1, e2, e3, e4, e5] at h
  omega
set_option maxHeartbeats 2000000 in
set_option maxRecDepth 100000 in
theorem check_any (w : World) (x : SheetM) {P : Nat → Prop} (hg : x.Good w P) (hf : x.Few) (hl : longD x.d = false) (hT : Tabs w) (hm : ∀ s ∈ namesD x.d, s.length ≤ maxLen) :
    Calls Tryz.prog 20 #[x.v] w fun e w' => e = .returned (.int .i64 (checkD x.d)) ∧ Below w.heap.size w w' := by
  obtain ⟨l1, l2, l3, l4, l5, l6⟩ := not_long hl
  obtain ⟨w1, hw1⟩ : ∃ w1, w.alloc (.cells x.c.toArray 29) = w1 := ⟨_, rfl⟩
  have hS1 : SheetAt w.heap.size x w1 := by rw [← hw1]; exact SheetAt.of (heap_alloc_new _ _)
  have hb1 : Below w.heap.size w w1 := by rw [← hw1]; exact (Below.refl _ _).alloc (Nat.le_refl _) _
  have hlt : w.heap.size < w1.heap.size := by rw [← hw1]; simp
  have HB1 := Lib.hid hb1
  have HG1 := Lib.hid (hg.below_ hb1)
  have HS1 := Lib.hid hS1
  have HLT := Lib.hid hlt
  have HF := Lib.hid hf
  have HT1 := Lib.hid (hT.below hb1)
  have HM := Lib.hid hm
  have HNB := Lib.hid (names_bound x hf)
  have HUB := Lib.hid (nums_bound x hf)
  obtain ⟨As, cs, es, _, _⟩ := hg.stops.shape
  obtain ⟨Ap, cp, ep, _, _⟩ := hg.paths.shape
  obtain ⟨Ad, cd, ed, _, _⟩ := hg.doors.shape
  obtain ⟨Ar, cr, er, _, _⟩ := hg.routes.shape
  obtain ⟨At, ct, et, _, _⟩ := hg.trips.shape
  obtain ⟨Ah, ch, eh, _, _⟩ := hg.hazs.shape
  have cells : ∀ wx, SheetAt w.heap.size x wx → wx.cell? ⟨w.heap.size, 0, none⟩ = some (.int .i64 x.hor) ∧ wx.cell? ⟨w.heap.size, 1, none⟩ = some (.slice As x.stops.length cs) ∧ wx.cell? ⟨w.heap.size, 2, none⟩ = some (.slice Ap x.paths.length cp) ∧ wx.cell? ⟨w.heap.size, 3, none⟩ = some (.slice Ad x.doors.length cd) ∧ wx.cell? ⟨w.heap.size, 4, none⟩ = some (.slice Ar x.routes.length cr) ∧ wx.cell? ⟨w.heap.size, 5, none⟩ = some (.slice At x.trips.length ct) ∧ wx.cell? ⟨w.heap.size, 6, none⟩ = some (.slice Ah x.hazs.length ch) := by
    rintro wx ⟨s0, s1, s2, s3, s4, s5, s6⟩
    rw [es] at s1
    rw [ep] at s2
    rw [ed] at s3
    rw [er] at s4
    rw [et] at s5
    rw [eh] at s6
    exact ⟨s0, s1, s2, s3, s4, s5, s6⟩
  have CELLS := Lib.hid cells
  have hv : x.v = .agg #[.int .i64 x.hor, .slice As x.stops.length cs, .slice Ap x.paths.length cp, .slice Ad x.doors.length cd, .slice Ar x.routes.length cr, .slice At x.trips.length ct, .slice Ah x.hazs.length ch] := by
    unfold SheetM.v; rw [es, ep, ed, er, et, eh]
  have HNM := Lib.hid (fun w3 (h3 : x.Good w3 P) => hv ▸ names_any w3 x h3 hf)
  have HNU := Lib.hid (fun w3 (h3 : x.Good w3 P) => hv ▸ numbers_any w3 x h3 hf)
  have HER := Lib.hid er
  unfold SheetM.c at hw1
  rw [es, ep, ed, er, et, eh] at hw1
  rw [hv]
  have r1 : decide ((256 : Int) < (x.stops.length : Int)) = false := decide_eq_false (by omega)
  have r2 : decide ((1024 : Int) < (x.paths.length : Int)) = false := decide_eq_false (by omega)
  have r3 : decide ((256 : Int) < (x.doors.length : Int)) = false := decide_eq_false (by omega)
  have r4 : decide ((256 : Int) < (x.routes.length : Int)) = false := decide_eq_false (by omega)
  have r5 : decide ((1024 : Int) < (x.trips.length : Int)) = false := decide_eq_false (by omega)
  have r6 : decide ((256 : Int) < (x.hazs.length : Int)) = false := decide_eq_false (by omega)
  have q1 : decide (256 < x.stops.length) = false := decide_eq_false (by omega)
  have q2 : decide (1024 < x.paths.length) = false := decide_eq_false (by omega)
  have q3 : decide (256 < x.doors.length) = false := decide_eq_false (by omega)
  have q4 : decide (256 < x.routes.length) = false := decide_eq_false (by omega)
  have q5 : decide (1024 < x.trips.length) = false := decide_eq_false (by omega)
  have q6 : decide (256 < x.hazs.length) = false := decide_eq_false (by omega)
  obtain ⟨c0, c1, c2, c3, c4, c5, c6⟩ := cells w1 hS1
  have HCK := Lib.hid (show checkD x.d = if (namesD x.d).any (fun s => !Nm.name s) = true then 7 else if (numsD x.d).any (fun n => !okN n) = true then 9 else if x.routes.any (fun r => !okR r.d) = true then 2 else 0 by
    unfold checkD; rw [if_neg (by rw [hl]; decide), any_routes])
  clear es ep ed er et eh hS1 hb1 hlt hf hg cells hT hm hv hl
  go_enter Tryz.func20, Tryz.ntmps20
  go_wp2_with fail
  refine (HNM.out w1 HG1.out).mono ?_
  rintro e w2 ⟨v2, rfl, ho2, hb2⟩
  have HB2 := Lib.hid hb2
  have HC2 := Lib.hid (cont_str w2 v2 (namesD x.d) (ho2.sl nc_len) (Nat.le_trans HNB.out (by decide)) (HT1.out.below hb2) HM.out)
  obtain ⟨A2, n2, p2, rfl⟩ := ow_form ho2
  have HT2 := Lib.hid (HT1.out.below hb2)
  have HG2 := Lib.hid (HG1.out.below_ hb2)
  clear ho2 hb2 c0 c1 c2 c3 c4 c5 c6
  go_wp2_with fail
  refine HC2.out.mono ?_
  rintro e w3 ⟨rfl, hb3⟩
  have HB3 := Lib.hid (HB2.out.trans (hb3.mono HB2.out.size))
  have HG3 := Lib.hid (HG2.out.below_ hb3)
  clear hb3
  obtain ⟨c0, c1, c2, c3, c4, c5, c6⟩ := CELLS.out w3 (HS1.out.below HB3.out HLT.out)
  cases a1 : (namesD x.d).any (fun s => !Nm.name s)
  · have HA1 := Lib.hid a1
    clear a1
    go_wp2_with fail
    refine (HNU.out w3 HG3.out).mono ?_
    rintro e w4 ⟨v4, rfl, ho4, hb4⟩
    have HB4 := Lib.hid (HB3.out.trans (hb4.mono HB3.out.size))
    have HC4 := Lib.hid (cont_i64 w4 v4 (numsD x.d) (ho4.sl ic_len) (Nat.le_trans HUB.out (by decide)))
    obtain ⟨A4, n4, p4, rfl⟩ := ow_form ho4
    have HG4 := Lib.hid (HG3.out.below_ hb4)
    clear ho4 hb4 c0 c1 c2 c3 c4 c5 c6
    go_wp2_with fail
    refine HC4.out.mono ?_
    rintro e w5 ⟨rfl, hb5⟩
    have HB5 := Lib.hid (HB4.out.trans (hb5.mono HB4.out.size))
    have HG5 := Lib.hid (HG4.out.below_ hb5)
    clear hb5
    obtain ⟨c0, c1, c2, c3, c4, c5, c6⟩ := CELLS.out w5 (HS1.out.below HB5.out HLT.out)
    cases a2 : (numsD x.d).any (fun n => !okN n)
    · have HA2 := Lib.hid a2
      clear a2
      have HC6 := Lib.hid (cont_route w5 (.slice Ar x.routes.length cr) x.routes (by rw [← HER.out]; exact HG5.out.routes) (by omega) (fun r hr => ⟨HG5.out.each r hr, (HF.out.each r hr).1⟩))
      go_wp2_with fail
      refine HC6.out.mono ?_
      rintro e w6 ⟨rfl, hb6⟩
      have HB6 := Lib.hid (HB1.out.trans ((HB5.out.trans (hb6.mono HB5.out.size)).mono HB1.out.size))
      clear hb6
      cases a3 : x.routes.any (fun r => !okR r.d)
      · have HA3 := Lib.hid a3
        clear a3
        go_wp2_with fail
        go_ret
        refine ⟨ret_i64 ?_, HB6.out⟩
        rw [HCK.out, HA1.out, HA2.out, HA3.out]; rfl
      · have HA3 := Lib.hid a3
        clear a3
        go_wp2_with fail
        go_ret
        refine ⟨ret_i64 ?_, HB6.out⟩
        rw [HCK.out, HA1.out, HA2.out, HA3.out]; rfl
    · have HA2 := Lib.hid a2
      clear a2
      go_wp2_with fail
      go_ret
      refine ⟨ret_i64 ?_, HB1.out.trans (HB5.out.mono HB1.out.size)⟩
      rw [HCK.out, HA1.out, HA2.out]; rfl
  · have HA1 := Lib.hid a1
    clear a1
    go_wp2_with fail
    go_ret
    refine ⟨ret_i64 ?_, HB1.out.trans (HB3.out.mono HB1.out.size)⟩
    rw [HCK.out, HA1.out]; rfl
end Go.Proofs.YteonefgbdphmiaaGreatDoor
