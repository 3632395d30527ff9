/- The walk of the statement BitsetWide. -/
import Derived.Test.YtaaladekamfpnaaDoorSi
namespace Go.Proofs.YtaaladekamfpnaaDoor
open Go.RowKit Bs

theorem upTo_congr {l m : List Bool} (h : ∀ j, at_ l j = at_ m j) (k : Nat) : upTo l k = upTo m k := by
  unfold upTo
  rw [show at_ l = at_ m from funext h]
theorem lst_congr {l m : List Bool} (h : ∀ j, at_ l j = at_ m j) (hl : l.length ≤ m.length) : lst m = lst l := by
  unfold lst
  rw [upTo_congr (l := l) (m := m) h]
  have := upTo_next (l := m) hl (fun j a _ => by rw [← h j]; exact at_ge a)
  exact this
theorem next_congr {l m : List Bool} (h : ∀ j, at_ l j = at_ m j) (i : Nat) : next l i = next m i := by
  apply Nx.eq
  rcases next_ok l i with ⟨h1, h2⟩ | ⟨k, h1, h2, h3, h4⟩
  · exact .inl ⟨h1, fun k hk => by rw [← h k]; exact h2 k hk⟩
  · exact .inr ⟨k, h1, h2, by rw [← h k]; exact h3, fun j a b => by rw [← h j]; exact h4 j a b⟩
theorem count_congr {l m : List Bool} (h : ∀ j, at_ l j = at_ m j) (hl : l.length ≤ m.length) : Bs.count l = Bs.count m := by
  rw [← count_lst, ← count_lst, lst_congr h hl]

/-- In the loop: both sets have the same. -/
def WideRel (n m k0 lo1 hi1 p1 lo2 hi2 p2 : Nat) (w : World) (s : Value) (wr : World) : Prop :=
  ∃ (k : Nat) (la lb : List Bool), k ≤ k0 ∧ s = .int .i64 (k : Int) ∧ BSet wr lo1 hi1 p1 la ∧ BSet wr lo2 hi2 p2 lb ∧ la.length = n ∧ lb.length = m ∧ (∀ j, at_ la j = at_ lb j) ∧ Below w.heap.size w wr

set_option maxRecDepth 100000 in
set_option maxHeartbeats 4000000 in
theorem wide_any (n0 m0 : Int) (vl : Value) (l : List Int) (w : World) {P : Nat → Prop} (hl : Sl ic 1 w vl l P) (hT : Tab w) (hg : 0 < w.heap.size) :
    Calls Tryd.prog 3 #[.int .i64 n0, .int .i64 m0, vl] w fun r w' => r = .returned (.bool true) ∧ Below w.heap.size w w' := by
  obtain ⟨A, ca, rfl, ha1, ha2⟩ := hl.shape
  have HL := Lib.hid (lives_any w hT hg)
  have HT := Lib.hid hT
  clear hT
  by_cases hla : (150 : Int) < (l.length : Int)
  · go_enter Tryd.func3, Tryd.ntmps3
    go_wp2_with fail
    refine HL.out.mono ?_
    rintro e w1 ⟨rfl, hbel1⟩
    go_wp2_with fail
    go_ret
    exact ⟨rfl, hbel1⟩
  have hd : decide ((150 : Int) < (l.length : Int)) = false := decide_eq_false hla
  have hll : l.length ≤ 150 := by omega
  clear hla
  have hn := pick_lt n0 300 (by omega)
  have hm := pick_lt m0 300 (by omega)
  have HPn := Lib.hid (fun wx => pick_any n0 300 wx (by omega) (by omega))
  have HPm := Lib.hid (fun wx => pick_any m0 300 wx (by omega) (by omega))
  generalize n0 % 300 = n1 at *
  generalize m0 % 300 = m1 at *
  obtain ⟨n, rfl⟩ := Int.eq_ofNat_of_zero_le hn.1
  obtain ⟨d, rfl⟩ := Int.eq_ofNat_of_zero_le hm.1
  have hn2 : (n : Int) < 300 := hn.2
  have hm2 : (d : Int) < 300 := hm.2
  clear hn hm
  go_enter Tryd.func3, Tryd.ntmps3
  go_wp2_with fail
  refine HL.out.mono ?_
  rintro e w1 ⟨rfl, hbel1⟩
  go_wp2_with fail
  refine (HPn.out w1).mono ?_
  rintro e w' ⟨rfl, rfl⟩
  go_wp2_with fail
  refine (HPm.out w1).mono ?_
  rintro e w' ⟨rfl, rfl⟩
  go_wp2_with fail
  refine (new_ok n w1 (by omega)).mono ?_
  rintro e w2 ⟨p1, rfl, hs1, hb2⟩
  have HN := new_ok (n + d) w2 (by omega)
  rw [show ((n + d : Nat) : Int) = (n : Int) + (d : Int) from by omega] at HN
  go_wp2_with fail
  refine HN.mono ?_
  rintro e w3 ⟨p2, rfl, hs2, hb3⟩
  have hs1 := hs1.below_ hb3
  have hbel3 := Below.lift hbel1 (Below.lift hb2 hb3)
  have hlo : w.heap.size ≤ w1.heap.size := hbel1.size
  have hlo2 : w1.heap.size ≤ w2.heap.size := hb2.size
  go_wp2_with fail
  go_loopw [11, 12, 13, 14, 15] (fun s _ _ _ _ wr => WideRel n (n + d) l.length w1.heap.size w2.heap.size p1 w2.heap.size w3.heap.size p2 w s wr) (fun s _ _ _ _ _ => l.length - (intOf s).toNat)
  case atStart => exact ⟨0, _, _, Nat.zero_le _, rfl, hs1, hs2, by rw [List.length_replicate], by rw [List.length_replicate], fun j => by unfold at_; rw [List.getD_eq_getElem?_getD, List.getD_eq_getElem?_getD, List.getElem?_replicate, List.getElem?_replicate]; split <;> split <;> rfl, hbel3⟩
  case round =>
    obtain ⟨k, la, lb, hk, rfl, hA, hB, hla, hlb, hab, hbel⟩ := hrel
    by_cases hlt : k < l.length
    · obtain ⟨b, off, c, e, h1, h2, h3, _, h5⟩ := (hl.below_ hbel).at_ hlt
      injection e with e e' e''
      subst e
      obtain ⟨x, Hx⟩ : ∃ x, Hid (l[k] = x) := ⟨_, Lib.hid rfl⟩
      rw [Hx.out] at h5
      have hc : wr.cell? ⟨b, off + k, none⟩ = some (.int .i64 x) := by simpa using h5 0 _ rfl
      have q1 : (0 : Int) ≤ (k : Int) := by omega
      have q2 : (k : Int) < (l.length : Int) := by omega
      clear h5 e' e''
      by_cases hin : 0 ≤ x ∧ x < (n : Int)
      · obtain ⟨hx0, hxn⟩ := hin
        obtain ⟨i, rfl⟩ := Int.eq_ofNat_of_zero_le hx0
        have d1 : decide ((0 : Int) ≤ (i : Int)) = true := decide_eq_true hx0
        have d2 : decide (i < n) = true := decide_eq_true (by omega)
        have hia : i < la.length := by omega
        have hib : i < lb.length := by omega
        go_wp2_with fail
        refine (put_any wr _ _ p1 la i hA hia).mono ?_
        rintro e w4 ⟨rfl, hA4, c4⟩
        have hB4 := hB.chg c4 (.inr (Nat.le_refl _))
        have hl4 : w4.cell? ⟨b, off + k, none⟩ = some (.int .i64 (i : Int)) := by
          have hb4 : Below w.heap.size w w4 := hbel.trans (c4.below hlo)
          obtain ⟨b', off', c', e, _, _, _, _, h5⟩ := (hl.below_ hb4).at_ hlt
          injection e with e _ _
          injection e with e
          injection e with e e'
          subst e e'
          rw [Hx.out] at h5
          simpa using h5 0 _ rfl
        go_wp2_with fail
        refine (put_any w4 _ _ p2 lb i hB4 hib).mono ?_
        rintro e w5 ⟨rfl, hB5, c5⟩
        have hA5 := hA4.chg c5 (.inl (Nat.le_refl _))
        rw [← hab i]
        generalize (!at_ la i) = r at *
        have hrr : (r != r) = false := by cases r <;> rfl
        have hR : WideRel n (n + d) l.length w1.heap.size w2.heap.size p1 w2.heap.size w3.heap.size p2 w (.int .i64 ((k : Int) + 1)) w5 :=
          ⟨k + 1, _, _, by omega, by go_num, hA5, hB5, by rw [List.length_set]; exact hla, by rw [List.length_set]; exact hlb, (fun j => by rw [at_set la i true hia, at_set lb i true hib, hab j]), (hbel.trans (c4.below hlo)).trans (c5.below (Nat.le_trans hlo hlo2))⟩
        have HR := Lib.hid hR
        clear hR hab hA hB hA4 hB4 hA5 hB5
        go_wp2_with fail
        have R := HR.out
        go_roundw
        case rel => first | exact R | ((repeat apply Exists.intro); exact ⟨R, rfl⟩)
        case measure => simp [intOf]; omega
      · have hout : x < 0 ∨ (la.length : Int) ≤ x := by omega
        go_wp2_with fail
        refine (put_out wr _ _ p1 la x hA hout).mono ?_
        rintro e w' ⟨rfl, rfl⟩
        by_cases hx0 : x < 0
        · have d1 : decide ((0 : Int) ≤ x) = false := decide_eq_false (by omega)
          go_wp2_with fail
          go_roundw
          case rel => exact ⟨k + 1, la, lb, by omega, by go_num, hA, hB, hla, hlb, hab, hbel⟩
          case measure => simp [intOf]; omega
        · have d1 : (0 : Int) ≤ x := by omega
          have d2 : decide (x < (n : Int)) = false := decide_eq_false (by omega)
          go_wp2_with fail
          go_roundw
          case rel => exact ⟨k + 1, la, lb, by omega, by go_num, hA, hB, hla, hlb, hab, hbel⟩
          case measure => simp [intOf]; omega
    · have hlst := Lib.hid (lst_congr hab (by omega))
      have hnext := Lib.hid (next_congr hab 0)
      have hcount := Lib.hid (count_congr hab (by omega))
      have hT4 := HT.out.below hbel hg
      have hgr : 0 < wr.heap.size := Nat.lt_of_lt_of_le hg hbel.size
      have hsame : ((n : Int) == (n : Int) + (d : Int)) = decide (la = lb) := by
        by_cases hd0 : d = 0
        · have : la = lb := ext (by omega) hab
          rw [decide_eq_true this, beq_iff_eq]; omega
        · have : la ≠ lb := fun e => by rw [e] at hla; omega
          rw [decide_eq_false this, beq_eq_false_iff_ne]; omega
      have hlen := Lib.hid (upTo_length_le la la.length)
      have hla2 : la.length ≤ 300 := by omega
      have hout : (n : Int) < 0 ∨ (la.length : Int) ≤ (n : Int) := by omega
      have hw1 := Lib.hid (show (la.length : Int) = (n : Int) by omega)
      have hw2 := Lib.hid (show (lb.length : Int) = (n : Int) + (d : Int) by omega)
      clear hab hla hlb
      go_wp2_with fail
      refine (list_any wr _ _ p1 la hA hT4 hgr).mono ?_
      rintro e w4 ⟨v4, rfl, ho4, hb4⟩
      have hA := hA.below_ hb4
      have hB := hB.below_ hb4
      go_wp2_with fail
      refine (list_any w4 _ _ p2 lb hB (hT4.below hb4 hgr) (Nat.lt_of_lt_of_le hgr hb4.size)).mono ?_
      rintro e w5 ⟨v5, rfl, ho5, hb5⟩
      have hA := hA.below_ hb5
      have hB := hB.below_ hb5
      rw [hlst.out] at ho5
      go_wp2_with fail
      refine (sameInt_self _ _ (lst la) _ ((ho4.sl ic_len).below_ hb5) (ho5.sl ic_len) (by have := hlen.out; unfold lst; omega)).mono ?_
      rintro e w6 ⟨rfl, n6, rfl⟩
      have hA := hA.drewN n6
      have hB := hB.drewN n6
      have hbel6 : Below w.heap.size w (w5.drewN n6) := below_drewN (Below.lift hbel (Below.lift hb4 hb5)) n6
      generalize w5.drewN n6 = w6 at *
      have hT6 := HT.out.below hbel6 hg
      go_wp2_with fail
      refine (count_any w6 _ _ p1 la hA).mono ?_
      rintro e w' ⟨rfl, rfl⟩
      go_wp2_with fail
      refine (count_any w6 _ _ p2 lb hB).mono ?_
      rintro e w' ⟨rfl, rfl⟩
      rw [← hcount.out]
      go_wp2_with fail
      refine (width_any w6 _ _ p1 la hA).mono ?_
      rintro e w' ⟨rfl, rfl⟩
      rw [hw1.out]
      go_wp2_with fail
      refine (width_any w6 _ _ p2 lb hB).mono ?_
      rintro e w' ⟨rfl, rfl⟩
      rw [hw2.out]
      go_wp2_with fail
      refine (next_any w6 _ _ p1 la 0 hA hT6).mono ?_
      rintro e w' ⟨rfl, rfl⟩
      go_wp2_with fail
      refine (next_any w6 _ _ p2 lb 0 hB hT6).mono ?_
      rintro e w' ⟨rfl, rfl⟩
      rw [← hnext.out]
      go_wp2_with fail
      refine (has_out w6 _ _ p1 la (n : Int) hA hout).mono ?_
      rintro e w' ⟨rfl, rfl⟩
      go_wp2_with fail
      refine (setSame_any w6 _ _ p1 _ _ p2 la lb hA hB).mono ?_
      rintro e w7 ⟨rfl, n7, rfl⟩
      generalize decide (la = lb) = bb at *
      have hbb : (bb == bb) = true := by cases bb <;> rfl
      go_wp2_with fail
      go_ret
      exact ⟨rfl, below_drewN hbel6 n7⟩
end Go.Proofs.YtaaladekamfpnaaDoor
