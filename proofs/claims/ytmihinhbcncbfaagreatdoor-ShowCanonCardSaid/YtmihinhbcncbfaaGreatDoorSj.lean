/- slices.ContainsFunc with sheet.Check's predicates. Printed by wip/bin/gencg.py. -/
import Derived.Test.YtmihinhbcncbfaaGreatDoorSq
namespace Go.Proofs.YtmihinhbcncbfaaGreatDoor
open Go.RowKit

theorem any_hit {α : Type} {p : α → Bool} {l : List α} {k : Nat} (h : k < l.length) (hp : p l[k] = true) : l.any p = true := List.any_eq_true.2 ⟨_, List.getElem_mem h, hp⟩
theorem any_miss {α : Type} {p : α → Bool} {l : List α} (h : ∀ j (hj : j < l.length), p l[j] = false) : l.any p = false := by
  rw [List.any_eq_false]
  intro x hx
  obtain ⟨j, hj, rfl⟩ := List.getElem_of_mem hx
  rw [h j hj]; simp
set_option maxHeartbeats 1000000 in
theorem idx_str (w : World) (v : Value) (l : List (List UInt8)) {P : Nat → Prop} (hs : Sl nc 1 w v l P) (hn : l.length ≤ 100000000) (hT : Tabs w) (hp : ∀ x ∈ l, x.length ≤ maxLen) :
    Calls Tryz.prog 100 #[v, .func (.func 70) #[] #[]] w fun e w' => (∃ r : Int, e = .returned (.int .i64 r) ∧ decide (0 ≤ r) = l.any (fun s => !Nm.name s)) ∧ Below w.heap.size w w' := by
  obtain ⟨A, cap, rfl, h1, h2⟩ := hs.shape
  have HT := Lib.hid hT
  clear hT
  have HPR := Lib.hid hp
  have HS := Lib.hid hs
  clear hp hs
  go_enter Tryz.func100, Tryz.ntmps100
  go_wp2_with fail
  go_loopg [8] l.length (fun gg s wr => ∃ k : Nat, k ≤ l.length ∧ l.length - k ≤ gg ∧ s = .int .i64 k ∧ Below w.heap.size w wr ∧ Hid (∀ j (hj : j < l.length), j < k → (fun s => !Nm.name s) l[j] = false))
  case atStart => exact ⟨0, Nat.zero_le _, by omega, rfl, Below.refl _ _, Lib.hid fun j _ h => absurd h (Nat.not_lt_zero _)⟩
  case round =>
    obtain ⟨k, hk, hgg, rfl, hb, hall⟩ := hrel
    by_cases hlt : k < l.length
    · obtain ⟨b1, o1, c1, e1, _, _, hl1, _, hxx⟩ := (HS.out.below_ hb).at_ hlt
      injection e1 with e1 e2 e3
      subst e1
      obtain ⟨x, hxe⟩ : ∃ x, l[k] = x := ⟨_, rfl⟩
      have hx := HPR.out _ (List.getElem_mem hlt)
      rw [hxe] at hx hxx
      have hx0 : wr.cell? ⟨b1, o1 + k, none⟩ = some (.string (ba x)) := by simpa using hxx 0 _ rfl
      have HT2 := Lib.hid (HT.out.below hb)
      have HC := pred_str wr x hx HT2.out
      have HB := Lib.hid hb
      have HSZ := Lib.hid (show w.heap.size ≤ wr.heap.size from hb.size)
      have HXE := Lib.hid hxe
      have HCC := Lib.hid HC
      clear HC hb e2 e3 hxx hx hxe
      have q1 : (0 : Int) ≤ (k : Int) := by omega
      have q2 : (k : Int) < (l.length : Int) := by omega
      obtain ⟨q, hq⟩ : ∃ q, (fun s => !Nm.name s) x = q := ⟨_, rfl⟩
      cases q
      · have HQ := Lib.hid hq
        have HC2 := HCC.out
        have hq' := hq
        simp only at hq'
        rw [hq'] at HC2
        replace HCC := Lib.hid HC2
        clear HC2 hq hq'
        go_wp2_with fail
        refine HCC.out.mono ?_
        rintro e w3 ⟨rfl, hb3⟩
        have HB3 := Lib.hid (HB.out.trans (hb3.mono HSZ.out))
        clear hb3
        go_wp2_with fail
        go_roundg (l.length - (k + 1))
        case measure => omega
        case rel =>
          refine ⟨k + 1, by omega, by omega, by go_num, HB3.out, Lib.hid fun j hj h => ?_⟩
          rcases Nat.lt_or_eq_of_le (Nat.le_of_lt_succ h) with h | rfl
          · exact hall.out j hj h
          · rw [HXE.out]; exact HQ.out
      · have HQ := Lib.hid hq
        have HC2 := HCC.out
        have hq' := hq
        simp only at hq'
        rw [hq'] at HC2
        replace HCC := Lib.hid HC2
        clear HC2 hq hq'
        go_wp2_with fail
        refine HCC.out.mono ?_
        rintro e w3 ⟨rfl, hb3⟩
        have HB3 := Lib.hid (HB.out.trans (hb3.mono HSZ.out))
        clear hb3
        go_wp2_with fail
        go_ret
        refine ⟨⟨k, rfl, ?_⟩, HB3.out⟩
        rw [any_hit hlt (by rw [HXE.out]; exact HQ.out)]
        exact decide_eq_true (by omega)
    · have hke : k = l.length := by omega
      have HB := Lib.hid hb
      have HALL := Lib.hid (any_miss (p := (fun s => !Nm.name s)) fun j hj => hall.out j hj (by omega))
      clear hb hall
      go_wp2_with fail
      go_ret
      exact ⟨⟨-1, rfl, by rw [HALL.out]; rfl⟩, HB.out⟩
theorem cont_str (w : World) (v : Value) (l : List (List UInt8)) {P : Nat → Prop} (hs : Sl nc 1 w v l P) (hn : l.length ≤ 100000000) (hT : Tabs w) (hp : ∀ x ∈ l, x.length ≤ maxLen) :
    Calls Tryz.prog 68 #[v, .func (.func 70) #[] #[]] w fun e w' => e = .returned (.bool (l.any (fun s => !Nm.name s))) ∧ Below w.heap.size w w' := by
  have HC := Lib.hid (idx_str w v l hs hn hT hp)
  obtain ⟨A, cap, rfl, h1, h2⟩ := hs.shape
  generalize l.any (fun s => !Nm.name s) = q at *
  clear hp hs
  go_enter Tryz.func68, Tryz.ntmps68
  go_wp2_with fail
  refine HC.out.mono ?_
  rintro e w3 ⟨⟨r, rfl, hr⟩, hb3⟩
  have HB3 := Lib.hid hb3
  have HR := Lib.hid hr
  clear hb3 hr
  go_wp2_with fail
  go_ret
  exact ⟨ret_bool HR.out, HB3.out⟩
set_option maxHeartbeats 1000000 in
theorem idx_i64 (w : World) (v : Value) (l : List Int) {P : Nat → Prop} (hs : Sl ic 1 w v l P) (hn : l.length ≤ 100000000) :
    Calls Tryz.prog 106 #[v, .func (.func 74) #[] #[]] w fun e w' => (∃ r : Int, e = .returned (.int .i64 r) ∧ decide (0 ≤ r) = l.any (fun n => !okN n)) ∧ Below w.heap.size w w' := by
  obtain ⟨A, cap, rfl, h1, h2⟩ := hs.shape
  have HS := Lib.hid hs
  clear hs
  go_enter Tryz.func106, Tryz.ntmps106
  go_wp2_with fail
  go_loopg [8] l.length (fun gg s wr => ∃ k : Nat, k ≤ l.length ∧ l.length - k ≤ gg ∧ s = .int .i64 k ∧ Below w.heap.size w wr ∧ Hid (∀ j (hj : j < l.length), j < k → (fun n => !okN n) l[j] = false))
  case atStart => exact ⟨0, Nat.zero_le _, by omega, rfl, Below.refl _ _, Lib.hid fun j _ h => absurd h (Nat.not_lt_zero _)⟩
  case round =>
    obtain ⟨k, hk, hgg, rfl, hb, hall⟩ := hrel
    by_cases hlt : k < l.length
    · obtain ⟨b1, o1, c1, e1, _, _, hl1, _, hxx⟩ := (HS.out.below_ hb).at_ hlt
      injection e1 with e1 e2 e3
      subst e1
      obtain ⟨x, hxe⟩ : ∃ x, l[k] = x := ⟨_, rfl⟩
      rw [hxe] at hxx
      have hx0 : wr.cell? ⟨b1, o1 + k, none⟩ = some (.int .i64 x) := by simpa using hxx 0 _ rfl
      have HC := pred_i64 wr x
      have HB := Lib.hid hb
      have HSZ := Lib.hid (show w.heap.size ≤ wr.heap.size from hb.size)
      have HXE := Lib.hid hxe
      have HCC := Lib.hid HC
      clear HC hb e2 e3 hxx hxe
      have q1 : (0 : Int) ≤ (k : Int) := by omega
      have q2 : (k : Int) < (l.length : Int) := by omega
      obtain ⟨q, hq⟩ : ∃ q, (fun n => !okN n) x = q := ⟨_, rfl⟩
      cases q
      · have HQ := Lib.hid hq
        have HC2 := HCC.out
        have hq' := hq
        simp only at hq'
        rw [hq'] at HC2
        replace HCC := Lib.hid HC2
        clear HC2 hq hq'
        go_wp2_with fail
        refine HCC.out.mono ?_
        rintro e w3 ⟨rfl, hb3⟩
        have HB3 := Lib.hid (HB.out.trans (hb3.mono HSZ.out))
        clear hb3
        go_wp2_with fail
        go_roundg (l.length - (k + 1))
        case measure => omega
        case rel =>
          refine ⟨k + 1, by omega, by omega, by go_num, HB3.out, Lib.hid fun j hj h => ?_⟩
          rcases Nat.lt_or_eq_of_le (Nat.le_of_lt_succ h) with h | rfl
          · exact hall.out j hj h
          · rw [HXE.out]; exact HQ.out
      · have HQ := Lib.hid hq
        have HC2 := HCC.out
        have hq' := hq
        simp only at hq'
        rw [hq'] at HC2
        replace HCC := Lib.hid HC2
        clear HC2 hq hq'
        go_wp2_with fail
        refine HCC.out.mono ?_
        rintro e w3 ⟨rfl, hb3⟩
        have HB3 := Lib.hid (HB.out.trans (hb3.mono HSZ.out))
        clear hb3
        go_wp2_with fail
        go_ret
        refine ⟨⟨k, rfl, ?_⟩, HB3.out⟩
        rw [any_hit hlt (by rw [HXE.out]; exact HQ.out)]
        exact decide_eq_true (by omega)
    · have hke : k = l.length := by omega
      have HB := Lib.hid hb
      have HALL := Lib.hid (any_miss (p := (fun n => !okN n)) fun j hj => hall.out j hj (by omega))
      clear hb hall
      go_wp2_with fail
      go_ret
      exact ⟨⟨-1, rfl, by rw [HALL.out]; rfl⟩, HB.out⟩
theorem cont_i64 (w : World) (v : Value) (l : List Int) {P : Nat → Prop} (hs : Sl ic 1 w v l P) (hn : l.length ≤ 100000000) :
    Calls Tryz.prog 72 #[v, .func (.func 74) #[] #[]] w fun e w' => e = .returned (.bool (l.any (fun n => !okN n))) ∧ Below w.heap.size w w' := by
  have HC := Lib.hid (idx_i64 w v l hs hn  )
  obtain ⟨A, cap, rfl, h1, h2⟩ := hs.shape
  generalize l.any (fun n => !okN n) = q at *
  clear hs
  go_enter Tryz.func72, Tryz.ntmps72
  go_wp2_with fail
  refine HC.out.mono ?_
  rintro e w3 ⟨⟨r, rfl, hr⟩, hb3⟩
  have HB3 := Lib.hid hb3
  have HR := Lib.hid hr
  clear hb3 hr
  go_wp2_with fail
  go_ret
  exact ⟨ret_bool HR.out, HB3.out⟩
set_option maxHeartbeats 1000000 in
theorem idx_route (w : World) (v : Value) (l : List RouteM) {P : Nat → Prop} (hs : Sl rc 4 w v l P) (hn : l.length ≤ 100000000) (hp : ∀ x ∈ l, x.Good w P ∧ x.stops.length ≤ 1000) :
    Calls Tryz.prog 109 #[v, .func (.func 77) #[] #[]] w fun e w' => (∃ r : Int, e = .returned (.int .i64 r) ∧ decide (0 ≤ r) = l.any (fun r => !okR r.d)) ∧ Below w.heap.size w w' := by
  obtain ⟨A, cap, rfl, h1, h2⟩ := hs.shape
  have HPR := Lib.hid hp
  have HS := Lib.hid hs
  clear hp hs
  go_enter Tryz.func109, Tryz.ntmps109
  go_wp2_with fail
  go_loopg [8] l.length (fun gg s wr => ∃ k : Nat, k ≤ l.length ∧ l.length - k ≤ gg ∧ s = .int .i64 k ∧ Below w.heap.size w wr ∧ Hid (∀ j (hj : j < l.length), j < k → (fun r => !okR r.d) l[j] = false))
  case atStart => exact ⟨0, Nat.zero_le _, by omega, rfl, Below.refl _ _, Lib.hid fun j _ h => absurd h (Nat.not_lt_zero _)⟩
  case round =>
    obtain ⟨k, hk, hgg, rfl, hb, hall⟩ := hrel
    by_cases hlt : k < l.length
    · obtain ⟨b1, o1, c1, e1, _, _, hl1, _, hxx⟩ := (HS.out.below_ hb).at_ hlt
      injection e1 with e1 e2 e3
      subst e1
      obtain ⟨x, hxe⟩ : ∃ x, l[k] = x := ⟨_, rfl⟩
      have hx := HPR.out _ (List.getElem_mem hlt)
      rw [hxe] at hx hxx
      have hx0 : wr.cell? ⟨b1, o1 + k * 4, none⟩ = some (.string (ba x.name)) := by simpa using hxx 0 _ rfl
      have hx1 : wr.cell? ⟨b1, o1 + k * 4 + 1, none⟩ = some (x.vs) := by simpa using hxx 1 _ rfl
      have hx2 : wr.cell? ⟨b1, o1 + k * 4 + 2, none⟩ = some (x.vr) := by simpa using hxx 2 _ rfl
      have hx3 : wr.cell? ⟨b1, o1 + k * 4 + 3, none⟩ = some (x.vy) := by simpa using hxx 3 _ rfl
      obtain ⟨Ax1, cx1, ex1, _, _⟩ := hx.1.stops.shape
      obtain ⟨Ax2, cx2, ex2, _, _⟩ := hx.1.rides.shape
      obtain ⟨Ax3, cx3, ex3, _, _⟩ := hx.1.stays.shape
      rw [ex1] at hx1
      rw [ex2] at hx2
      rw [ex3] at hx3
      have HC := pred_route wr x (hx.1.below_ hb) hx.2
      unfold rc at HC
      rw [ex1, ex2, ex3] at HC
      have HB := Lib.hid hb
      have HSZ := Lib.hid (show w.heap.size ≤ wr.heap.size from hb.size)
      have HXE := Lib.hid hxe
      have HCC := Lib.hid HC
      clear HC hb e2 e3 hxx hx hxe
      have q1 : (0 : Int) ≤ (k : Int) := by omega
      have q2 : (k : Int) < (l.length : Int) := by omega
      obtain ⟨q, hq⟩ : ∃ q, (fun r => !okR r.d) x = q := ⟨_, rfl⟩
      cases q
      · have HQ := Lib.hid hq
        have HC2 := HCC.out
        have hq' := hq
        simp only at hq'
        rw [hq'] at HC2
        replace HCC := Lib.hid HC2
        clear HC2 hq hq'
        go_wp2_with fail
        refine HCC.out.mono ?_
        rintro e w3 ⟨rfl, hb3⟩
        have HB3 := Lib.hid (HB.out.trans (hb3.mono HSZ.out))
        clear hb3
        go_wp2_with fail
        go_roundg (l.length - (k + 1))
        case measure => omega
        case rel =>
          refine ⟨k + 1, by omega, by omega, by go_num, HB3.out, Lib.hid fun j hj h => ?_⟩
          rcases Nat.lt_or_eq_of_le (Nat.le_of_lt_succ h) with h | rfl
          · exact hall.out j hj h
          · rw [HXE.out]; exact HQ.out
      · have HQ := Lib.hid hq
        have HC2 := HCC.out
        have hq' := hq
        simp only at hq'
        rw [hq'] at HC2
        replace HCC := Lib.hid HC2
        clear HC2 hq hq'
        go_wp2_with fail
        refine HCC.out.mono ?_
        rintro e w3 ⟨rfl, hb3⟩
        have HB3 := Lib.hid (HB.out.trans (hb3.mono HSZ.out))
        clear hb3
        go_wp2_with fail
        go_ret
        refine ⟨⟨k, rfl, ?_⟩, HB3.out⟩
        rw [any_hit hlt (by rw [HXE.out]; exact HQ.out)]
        exact decide_eq_true (by omega)
    · have hke : k = l.length := by omega
      have HB := Lib.hid hb
      have HALL := Lib.hid (any_miss (p := (fun r => !okR r.d)) fun j hj => hall.out j hj (by omega))
      clear hb hall
      go_wp2_with fail
      go_ret
      exact ⟨⟨-1, rfl, by rw [HALL.out]; rfl⟩, HB.out⟩
theorem cont_route (w : World) (v : Value) (l : List RouteM) {P : Nat → Prop} (hs : Sl rc 4 w v l P) (hn : l.length ≤ 100000000) (hp : ∀ x ∈ l, x.Good w P ∧ x.stops.length ≤ 1000) :
    Calls Tryz.prog 76 #[v, .func (.func 77) #[] #[]] w fun e w' => e = .returned (.bool (l.any (fun r => !okR r.d))) ∧ Below w.heap.size w w' := by
  have HC := Lib.hid (idx_route w v l hs hn  hp)
  obtain ⟨A, cap, rfl, h1, h2⟩ := hs.shape
  generalize l.any (fun r => !okR r.d) = q at *
  clear hp hs
  go_enter Tryz.func76, Tryz.ntmps76
  go_wp2_with fail
  refine HC.out.mono ?_
  rintro e w3 ⟨⟨r, rfl, hr⟩, hb3⟩
  have HB3 := Lib.hid hb3
  have HR := Lib.hid hr
  clear hb3 hr
  go_wp2_with fail
  go_ret
  exact ⟨ret_bool HR.out, HB3.out⟩
end Go.Proofs.YtmihinhbcncbfaaGreatDoor
