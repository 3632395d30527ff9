/- The walk of the statement BitsetRules. -/
import Derived.Test.YtaaladekamfpnaaDoorBk
import Derived.Maps.Own
namespace Go.Proofs.YtaaladekamfpnaaDoor
open Go.RowKit Bs Go.Maps

/-- A map written leaves a set of lower blocks as it was. -/
theorem BSet.grown {w w' : World} {lo hi p g : Nat} {l : List Bool} (h : BSet w lo hi p l) (hg : w.grownBy w' (some g)) (hd : hi ≤ g) : BSet w' lo hi p l :=
  h.keep hg.size fun b _ h2 => hg.block b (by have := h.hi_le; omega) (by intro e; injection e with e; omega)
theorem Marks.grown {w w' : World} {b cnt g : Nat} {l : List Bool} (h : Marks w b cnt l) (hg : w.grownBy w' (some g)) (hd : b ≠ g) : Marks w' b cnt l :=
  h.keep (hg.block b h.lt (by intro e; injection e with e; exact hd e))
/-- In the first two loops: the sets, the maps, and what has been. -/
def RuRel (N len : Nat) (l1 u1 p1 l2 u2 p2 mi mo : Nat) (w : World) (first : Bool) (s : Value) (wr : World) : Prop :=
  ∃ (k c1 c2 : Nat) (la lb : List Bool), k ≤ len ∧ s = .int .i64 (k : Int) ∧ BSet wr l1 u1 p1 la ∧ BSet wr l2 u2 p2 lb ∧ la.length = N ∧ lb.length = N ∧ Marks wr mi c1 la ∧ Marks wr mo c2 lb ∧ Below w.heap.size w wr ∧ (if first = true then c1 ≤ k ∧ c2 = 0 else c1 ≤ 200 ∧ c2 ≤ k)

set_option maxRecDepth 100000 in
set_option maxHeartbeats 8000000 in
theorem rules_any (n0 : Int) (vl vm : Value) (ll lm : List Int) (w : World) {P Q : Nat → Prop} (hl : Sl ic 1 w vl ll P) (hm : Sl ic 1 w vm lm Q) (hT : Tab w) (hg : 0 < w.heap.size) :
    Calls Tryd.prog 6 #[.int .i64 n0, vl, vm] w fun r w' => r = .returned (.bool true) ∧ Below w.heap.size w w' := by
  obtain ⟨A, ca, rfl, ha1, ha2⟩ := hl.shape
  obtain ⟨B, cb, rfl, hb1, hb2⟩ := hm.shape
  have HL := Lib.hid (lives_any w hT hg)
  have HT := Lib.hid hT
  clear hT
  by_cases hla : (150 : Int) < (ll.length : Int)
  · go_enter Tryd.func6, Tryd.ntmps6
    go_wp2_with fail
    refine HL.out.mono ?_
    rintro e w1 ⟨rfl, hbel1⟩
    go_wp2_with fail
    go_ret
    exact ⟨rfl, hbel1⟩
  have hd : decide ((150 : Int) < (ll.length : Int)) = false := decide_eq_false hla
  by_cases hlb : (150 : Int) < (lm.length : Int)
  · go_enter Tryd.func6, Tryd.ntmps6
    go_wp2_with fail
    refine HL.out.mono ?_
    rintro e w1 ⟨rfl, hbel1⟩
    go_wp2_with fail
    go_ret
    exact ⟨rfl, hbel1⟩
  have hd' : decide ((150 : Int) < (lm.length : Int)) = false := decide_eq_false hlb
  have h1 : ll.length ≤ 150 := by omega
  have h2 : lm.length ≤ 150 := by omega
  clear hla hlb
  have hn := pick_lt n0 300 (by omega)
  have HPn := Lib.hid (fun wx => pick_any n0 300 wx (by omega) (by omega))
  generalize n0 % 300 = n1 at *
  obtain ⟨q, rfl⟩ := Int.eq_ofNat_of_zero_le hn.1
  obtain ⟨N, hN⟩ : ∃ N : Nat, 1 + (q : Int) = (N : Int) := ⟨q + 1, by omega⟩
  have hN1 : 1 ≤ N := by omega
  have hN2 : N ≤ 300 := by omega
  have hN3 : (1 : Int) ≤ (N : Int) := by omega
  have hmm := @run_makeMap Tryd.prog
  clear hn
  go_enter Tryd.func6, Tryd.ntmps6
  go_wp2_with fail
  refine HL.out.mono ?_
  rintro e w1 ⟨rfl, hbel1⟩
  go_wp2_with fail
  refine (HPn.out w1).mono ?_
  rintro e w' ⟨rfl, rfl⟩
  go_wp2_with fail
  refine (new_ok N w1 (by omega)).mono ?_
  rintro e w2 ⟨p1, rfl, hs1, hb2⟩
  go_wp2_with fail
  refine (new_ok N w2 (by omega)).mono ?_
  rintro e w3 ⟨p2, rfl, hs2, hb3⟩
  have hs1 := hs1.below_ hb3
  have hbel3 := Below.lift hbel1 (Below.lift hb2 hb3)
  go_wp2_with fail
  clear hmm
  have hM1 : Marks ((w3.alloc (.map #[] 0)).alloc (.map #[] 0)) w3.heap.size 0 (List.replicate N false) := (Marks.made w3 N).below_ ((Below.refl _ _).alloc (Nat.le_refl _) _)
  have hM2 : Marks ((w3.alloc (.map #[] 0)).alloc (.map #[] 0)) (w3.heap.size + 1) 0 (List.replicate N false) := by
    have := Marks.made (w3.alloc (.map #[] 0)) N
    rwa [show (w3.alloc (.map #[] 0)).heap.size = w3.heap.size + 1 by simp] at this
  have hbel4 : Below w.heap.size w ((w3.alloc (.map #[] 0)).alloc (.map #[] 0)) := (hbel3.alloc hbel3.size _).alloc (Nat.le_trans hbel3.size (by simp)) _
  have hs1 := (hs1.alloc (.map #[] 0)).alloc (.map #[] 0)
  have hs2 := (hs2.alloc (.map #[] 0)).alloc (.map #[] 0)
  have g0 := hbel1.size
  have g1 := hs1.lt
  have g2 := hs2.lt
  have hl4 := hl.below_ hbel4
  have g3 : w.heap.size ≤ w1.heap.size := g0
  go_loopw [13, 14, 15, 16] (fun s _ _ _ wr => RuRel N ll.length w1.heap.size w2.heap.size p1 w2.heap.size w3.heap.size p2 w3.heap.size (w3.heap.size + 1) w true s wr) (fun s _ _ _ _ => ll.length - (intOf s).toNat)
  case atStart => exact ⟨0, 0, 0, _, _, Nat.zero_le _, rfl, hs1, hs2, by rw [List.length_replicate], by rw [List.length_replicate], hM1, hM2, hbel4, ⟨Nat.le_refl _, rfl⟩⟩
  case round =>
    obtain ⟨k, c1, c2, la, lb, hk, rfl, hA, hB, hla, hlb, hMi, hMo, hbel, hc⟩ := hrel
    rw [if_pos rfl] at hc
    by_cases hlt : k < ll.length
    · obtain ⟨b, off, c, e, _, _, _, _, h5⟩ := (hl.below_ hbel).at_ hlt
      injection e with e e' e''
      subst e
      obtain ⟨x, Hx⟩ : ∃ x, Hid (ll[k] = x) := ⟨_, Lib.hid rfl⟩
      rw [Hx.out] at h5
      have hc0 : wr.cell? ⟨b, off + k, none⟩ = some (.int .i64 x) := by simpa using h5 0 _ rfl
      have q1 : (0 : Int) ≤ (k : Int) := by omega
      have q2 : (k : Int) < (ll.length : Int) := by omega
      have hpk := pick_lt x N hN3
      have HPk := Lib.hid (pick_any x N wr hN3 (by omega))
      generalize x % (N : Int) = xi at *
      obtain ⟨i, rfl⟩ := Int.eq_ofNat_of_zero_le hpk.1
      have hiN : i < la.length := by omega
      have hc1 := hc.1
      clear h5 e' e'' hpk
      cases hx : at_ la i
      · have hP := put_any wr _ _ p1 la i hA hiN
        rw [hx, show (!false) = true from rfl] at hP
        go_wp2_with fail
        refine HPk.out.mono ?_
        rintro e w' ⟨rfl, rfl⟩
        go_wp2_with fail
        refine hP.mono ?_
        rintro e w5 ⟨rfl, hA5, c5⟩
        have hB5 := hB.chg c5 (by omega)
        have hMi5 := hMi.chg c5 (by omega)
        have hMo5 := hMo.chg c5 (by omega)
        have hlook := hMi5.look (i := i) (by omega)
        rw [hx, show bI false = 0 from rfl] at hlook
        have hbel5 := hbel.trans (c5.below (by omega))
        obtain ⟨D, hDo, hDm, hDa⟩ := hMi5
        have hDa' := Lib.hid hDa
        clear hDa
        go_wp2_with (at_mapUpdate; refine wpList_mapUpdate_own _ rfl _ _ _ 43 rfl 3 3 lawI Tryd.underlying43 _ w3.heap.size c1 _ rfl hDo (by unfold maxLen; omega) _ _ _ rfl rfl (keyOf_int_mk Tryd.underlying3 (wf_small (i := i) (by omega))) _ [] (plainElem_int Tryd.underlying3 (by decide)) ?_; intro w6 hown6 hg6)
        have R : RuRel N ll.length w1.heap.size w2.heap.size p1 w2.heap.size w3.heap.size p2 w3.heap.size (w3.heap.size + 1) w true (.int .i64 ((k : Int) + 1)) w6 :=
          ⟨k + 1, c1 + 1, c2, _, lb, by omega, by go_num, hA5.grown hg6 (by omega), hB5.grown hg6 (by omega), by rw [List.length_set]; exact hla, hlb, Marks.put hDm hDa'.out hiN hown6, hMo5.grown hg6 (by omega), hbel5.grown hg6 hbel5.size (fun g hg => by injection hg with hg; omega), ⟨by omega, hc.2⟩⟩
        go_roundw
        case rel => first | exact R | ((repeat apply Exists.intro); exact ⟨R, rfl⟩)
        case measure => simp [intOf]; omega
      · have hP := put_any wr _ _ p1 la i hA hiN
        rw [hx, show (!true) = false from rfl] at hP
        go_wp2_with fail
        refine HPk.out.mono ?_
        rintro e w' ⟨rfl, rfl⟩
        go_wp2_with fail
        refine hP.mono ?_
        rintro e w5 ⟨rfl, hA5, c5⟩
        have hB5 := hB.chg c5 (by omega)
        have hMi5 := hMi.chg c5 (by omega)
        have hMo5 := hMo.chg c5 (by omega)
        have hlook := hMi5.look (i := i) (by omega)
        rw [hx, show bI true = 1 from rfl] at hlook
        have hbel5 := hbel.trans (c5.below (by omega))
        obtain ⟨D, hDo, hDm, hDa⟩ := hMi5
        have hDa' := Lib.hid hDa
        clear hDa
        go_wp2_with (at_mapUpdate; refine wpList_mapUpdate_own _ rfl _ _ _ 43 rfl 3 3 lawI Tryd.underlying43 _ w3.heap.size c1 _ rfl hDo (by unfold maxLen; omega) _ _ _ rfl rfl (keyOf_int_mk Tryd.underlying3 (wf_small (i := i) (by omega))) _ [] (plainElem_int Tryd.underlying3 (by decide)) ?_; intro w6 hown6 hg6)
        have R : RuRel N ll.length w1.heap.size w2.heap.size p1 w2.heap.size w3.heap.size p2 w3.heap.size (w3.heap.size + 1) w true (.int .i64 ((k : Int) + 1)) w6 :=
          ⟨k + 1, c1 + 1, c2, _, lb, by omega, by go_num, hA5.grown hg6 (by omega), hB5.grown hg6 (by omega), by rw [List.length_set]; exact hla, hlb, Marks.put hDm hDa'.out hiN hown6, hMo5.grown hg6 (by omega), hbel5.grown hg6 hbel5.size (fun g hg => by injection hg with hg; omega), ⟨by omega, hc.2⟩⟩
        go_roundw
        case rel => first | exact R | ((repeat apply Exists.intro); exact ⟨R, rfl⟩)
        case measure => simp [intOf]; omega
    · have hfirst := hc.1
      have hl5 := hm.below_ hbel
      have R0 : RuRel N lm.length w1.heap.size w2.heap.size p1 w2.heap.size w3.heap.size p2 w3.heap.size (w3.heap.size + 1) w false (.int .i64 0) wr :=
        ⟨0, c1, c2, la, lb, Nat.zero_le _, rfl, hA, hB, hla, hlb, hMi, hMo, hbel, ⟨by omega, by omega⟩⟩
      have HR0 := Lib.hid R0
      clear R0 hA hB hla hlb hMi hMo hbel hc hl5
      go_wp2_with fail
      go_loopw [17] (fun s wr => RuRel N lm.length w1.heap.size w2.heap.size p1 w2.heap.size w3.heap.size p2 w3.heap.size (w3.heap.size + 1) w false s wr) (fun s _ => lm.length - (intOf s).toNat)
      case atStart => exact HR0.out
      case round =>
        clear HR0
        obtain ⟨k, c1, c2, la, lb, hk, rfl, hA, hB, hla, hlb, hMi, hMo, hbel, hc⟩ := hrel
        rw [if_neg (by decide)] at hc
        by_cases hlt : k < lm.length
        · obtain ⟨b, off, c, e, _, _, _, _, h5⟩ := (hm.below_ hbel).at_ hlt
          injection e with e e' e''
          subst e
          obtain ⟨x, Hx⟩ : ∃ x, Hid (lm[k] = x) := ⟨_, Lib.hid rfl⟩
          rw [Hx.out] at h5
          have hc0 : wr.cell? ⟨b, off + k, none⟩ = some (.int .i64 x) := by simpa using h5 0 _ rfl
          have q1 : (0 : Int) ≤ (k : Int) := by omega
          have q2 : (k : Int) < (lm.length : Int) := by omega
          have hpk := pick_lt x N hN3
          have HPk := Lib.hid (fun wx => pick_any x N wx hN3 (by omega))
          generalize x % (N : Int) = xi at *
          obtain ⟨i, rfl⟩ := Int.eq_ofNat_of_zero_le hpk.1
          have hiN : i < lb.length := by omega
          have hc1 := hc.2
          clear h5 e' e'' hpk
          go_wp2_with fail
          refine (HPk.out wr).mono ?_
          rintro e w' ⟨rfl, rfl⟩
          go_wp2_with fail
          refine (put_any wr _ _ p2 lb i hB hiN).mono ?_
          rintro e w5 ⟨rfl, hB5, c5⟩
          have hA5 := hA.chg c5 (by omega)
          have hMi5 := hMi.chg c5 (by omega)
          have hMo5 := hMo.chg c5 (by omega)
          have hbel5 := hbel.trans (c5.below (by omega))
          have hc5 : w5.cell? ⟨b, off + k, none⟩ = some (.int .i64 x) := by
            obtain ⟨b', off', c', e, _, _, _, _, h5⟩ := (hm.below_ hbel5).at_ hlt
            injection e with e _ _
            injection e with e
            injection e with e e'
            subst e e'
            rw [Hx.out] at h5
            simpa using h5 0 _ rfl
          obtain ⟨D, hDo, hDm, hDa⟩ := hMo5
          have hDa' := Lib.hid hDa
          clear hDa
          go_wp2_with fail
          refine (HPk.out w5).mono ?_
          rintro e w' ⟨rfl, rfl⟩
          go_wp2_with (at_mapUpdate; refine wpList_mapUpdate_own _ rfl _ _ _ 43 rfl 3 3 lawI Tryd.underlying43 _ (w3.heap.size + 1) c2 _ rfl hDo (by unfold maxLen; omega) _ _ _ rfl rfl (keyOf_int_mk Tryd.underlying3 (wf_small (i := i) (by omega))) _ [] (plainElem_int Tryd.underlying3 (by decide)) ?_; intro w6 hown6 hg6)
          have R : RuRel N lm.length w1.heap.size w2.heap.size p1 w2.heap.size w3.heap.size p2 w3.heap.size (w3.heap.size + 1) w false (.int .i64 ((k : Int) + 1)) w6 :=
            ⟨k + 1, c1, c2 + 1, la, _, by omega, by go_num, hA5.grown hg6 (by omega), hB5.grown hg6 (by omega), hla, by rw [List.length_set]; exact hlb, hMi5.grown hg6 (by omega), Marks.put hDm hDa'.out hiN hown6, hbel5.grown hg6 hbel5.size (fun g hg => by injection hg with hg; omega), by rw [if_neg (by decide)]; exact ⟨hc.1, by omega⟩⟩
          go_roundw
          case rel => first | exact R | ((repeat apply Exists.intro); exact ⟨R, rfl⟩)
          case measure => simp [intOf]; omega
        · have hbw := Lib.hid hbel
          have hmi := hMi.lt
          have hmo := hMo.lt
          have hw0 := hbel.size
          clear hbel hc
          obtain ⟨wo, rfl⟩ : ∃ wo : World, wo = wr := ⟨_, rfl⟩
          have lnA : la.length = N := hla
          have lnB : lb.length = N := hlb
          have hAu := hA.hi_le
          clear hla hlb
          go_wp2_with fail
          refine (clone_any wo _ _ p1 _ hA).mono ?_
          rintro e w6 ⟨qO, rfl, hO, hb6⟩
          have sz6 := hb6.size
          have lt6 := hO.lt
          have hA := hA.below_ hb6
          have hB := hB.below_ hb6
          have hMi := hMi.below_ hb6
          have hMo := hMo.below_ hb6
          have hbw := Lib.hid (Below.lift hbw.out hb6)
          have lnO : (la).length = N := lnA
          go_wp2_with fail
          refine (clone_any w6 _ _ p1 _ hA).mono ?_
          rintro e w7 ⟨qC, rfl, hC, hb7⟩
          have sz7 := hb7.size
          have lt7 := hC.lt
          have hA := hA.below_ hb7
          have hB := hB.below_ hb7
          have hO := hO.below_ hb7
          have hMi := hMi.below_ hb7
          have hMo := hMo.below_ hb7
          have hbw := Lib.hid (Below.lift hbw.out hb7)
          have lnC : (la).length = N := lnA
          go_wp2_with fail
          refine (clone_any w7 _ _ p1 _ hA).mono ?_
          rintro e w8 ⟨qM, rfl, hM, hb8⟩
          have sz8 := hb8.size
          have lt8 := hM.lt
          have hA := hA.below_ hb8
          have hB := hB.below_ hb8
          have hO := hO.below_ hb8
          have hC := hC.below_ hb8
          have hMi := hMi.below_ hb8
          have hMo := hMo.below_ hb8
          have hbw := Lib.hid (Below.lift hbw.out hb8)
          have lnM : (la).length = N := lnA
          go_wp2_with fail
          refine (clone_any w8 _ _ p1 _ hA).mono ?_
          rintro e w9 ⟨qK, rfl, hK, hb9⟩
          have sz9 := hb9.size
          have lt9 := hK.lt
          have hA := hA.below_ hb9
          have hB := hB.below_ hb9
          have hO := hO.below_ hb9
          have hC := hC.below_ hb9
          have hM := hM.below_ hb9
          have hMi := hMi.below_ hb9
          have hMo := hMo.below_ hb9
          have hbw := Lib.hid (Below.lift hbw.out hb9)
          have lnK : (la).length = N := lnA
          go_wp2_with fail
          refine (setOr_any w9 _ _ qO _ _ p2 _ _ hO hB (by omega) (by omega)).mono ?_
          rintro e w10 ⟨rfl, hO, ch10⟩
          have hO : BSet w10 wo.heap.size w6.heap.size qO (orL (la) (lb)) := hO
          have lnO : (orL (la) (lb)).length = N := by rw [orL_len (by omega)]; exact lnO
          have sa10 : w10.heap.size ≤ w9.heap.size := Nat.le_of_eq ch10.size
          have sb10 : w9.heap.size ≤ w10.heap.size := Nat.le_of_eq ch10.size.symm
          have hA := hA.chg ch10 (by omega)
          have hB := hB.chg ch10 (by omega)
          have hC := hC.chg ch10 (by omega)
          have hM := hM.chg ch10 (by omega)
          have hK := hK.chg ch10 (by omega)
          have hMi := hMi.chg ch10 (by omega)
          have hMo := hMo.chg ch10 (by omega)
          have hbw := Lib.hid (hbw.out.trans (ch10.below (by omega)))
          go_wp2_with fail
          refine (setAnd_any w10 _ _ qC _ _ p2 _ _ hC hB (by omega) (by omega)).mono ?_
          rintro e w11 ⟨rfl, hC, ch11⟩
          have hC : BSet w11 w6.heap.size w7.heap.size qC (andL (la) (lb)) := hC
          have lnC : (andL (la) (lb)).length = N := by rw [andL_len (by omega)]; exact lnC
          have sa11 : w11.heap.size ≤ w10.heap.size := Nat.le_of_eq ch11.size
          have sb11 : w10.heap.size ≤ w11.heap.size := Nat.le_of_eq ch11.size.symm
          have hA := hA.chg ch11 (by omega)
          have hB := hB.chg ch11 (by omega)
          have hO := hO.chg ch11 (by omega)
          have hM := hM.chg ch11 (by omega)
          have hK := hK.chg ch11 (by omega)
          have hMi := hMi.chg ch11 (by omega)
          have hMo := hMo.chg ch11 (by omega)
          have hbw := Lib.hid (hbw.out.trans (ch11.below (by omega)))
          go_wp2_with fail
          refine (setMinus_any w11 _ _ qM _ _ p2 _ _ hM hB (by omega) (by omega)).mono ?_
          rintro e w12 ⟨rfl, hM, ch12⟩
          have hM : BSet w12 w7.heap.size w8.heap.size qM (minusL (la) (lb)) := hM
          have lnM : (minusL (la) (lb)).length = N := by rw [minusL_len (by omega)]; exact lnM
          have sa12 : w12.heap.size ≤ w11.heap.size := Nat.le_of_eq ch12.size
          have sb12 : w11.heap.size ≤ w12.heap.size := Nat.le_of_eq ch12.size.symm
          have hA := hA.chg ch12 (by omega)
          have hB := hB.chg ch12 (by omega)
          have hO := hO.chg ch12 (by omega)
          have hC := hC.chg ch12 (by omega)
          have hK := hK.chg ch12 (by omega)
          have hMi := hMi.chg ch12 (by omega)
          have hMo := hMo.chg ch12 (by omega)
          have hbw := Lib.hid (hbw.out.trans (ch12.below (by omega)))
          go_wp2_with fail
          go_loopw [22] (fun s wx => ∃ k n : Nat, k ≤ N ∧ s = .int .i64 (k : Int) ∧ wx = w12.drewN n) (fun s _ => N - (intOf s).toNat)
          case atStart => exact ⟨0, 0, Nat.zero_le _, rfl, rfl⟩
          case round =>
            obtain ⟨k, n, hk, rfl, rfl⟩ := hrel
            by_cases hlt : k < N
            · have q1 : (0 : Int) ≤ (k : Int) := by omega
              have q2 : (k : Int) < (N : Int) := by omega
              cases hx : at_ la k
              · cases hy : at_ lb k
                · as_aux_lemma =>
                    have HO : ∀ m, Calls Tryd.prog 18 #[.pointer (some ⟨qO, 0, none⟩), .int .i64 (k : Int)] (w12.drewN m) fun e w' => e = .returned (.bool false) ∧ w12.drewN m = w' := fun m => by
                      have h := has_in (w12.drewN m) _ _ qO _ k (hO.drewN m) (by omega)
                      rwa [at_or (by omega), hx, hy, show (false || false) = false from rfl] at h
                    have HC : ∀ m, Calls Tryd.prog 18 #[.pointer (some ⟨qC, 0, none⟩), .int .i64 (k : Int)] (w12.drewN m) fun e w' => e = .returned (.bool false) ∧ w12.drewN m = w' := fun m => by
                      have h := has_in (w12.drewN m) _ _ qC _ k (hC.drewN m) (by omega)
                      rwa [at_and (by omega), hx, hy, show (false && false) = false from rfl] at h
                    have HM : ∀ m, Calls Tryd.prog 18 #[.pointer (some ⟨qM, 0, none⟩), .int .i64 (k : Int)] (w12.drewN m) fun e w' => e = .returned (.bool false) ∧ w12.drewN m = w' := fun m => by
                      have h := has_in (w12.drewN m) _ _ qM _ k (hM.drewN m) (by omega)
                      rwa [at_minus (by omega), hx, hy, show (false && !false) = false from rfl] at h
                    have HA : ∀ m, Calls Tryd.prog 18 #[.pointer (some ⟨p1, 0, none⟩), .int .i64 (k : Int)] (w12.drewN m) fun e w' => e = .returned (.bool false) ∧ w12.drewN m = w' := fun m => by
                      have h := has_in (w12.drewN m) _ _ p1 _ k (hA.drewN m) (by omega)
                      rwa [hx] at h
                    have hLi : ∀ m, (Instr.lookup 43 (.map (some w3.heap.size)) (.int .i64 (k : Int)) false).run Tryd.prog (w12.drewN m) = .ok (.int .i64 0) (w12.drewN m) := fun m => by
                      have h := (hMi.drewN m).look (i := k) (by omega)
                      rwa [hx, show bI false = 0 from rfl] at h
                    have hLo : ∀ m, (Instr.lookup 43 (.map (some (w3.heap.size + 1))) (.int .i64 (k : Int)) false).run Tryd.prog (w12.drewN m) = .ok (.int .i64 0) (w12.drewN m) := fun m => by
                      have h := (hMo.drewN m).look (i := k) (by omega)
                      rwa [hy, show bI false = 0 from rfl] at h
                    have HO := Lib.hid HO
                    have HC := Lib.hid HC
                    have HM := Lib.hid HM
                    have HA := Lib.hid HA
                    go_wp2_with fail
                    try dsimp only [List.append]
                    go_quiet (first | (go_at_call 18; with_reducible exact quiet_add_left2 HO.out _ _) | (go_at_call 18; with_reducible exact quiet_add_left2 HC.out _ _) | (go_at_call 18; with_reducible exact quiet_add_left2 HM.out _ _) | (go_at_call 18; with_reducible exact quiet_add_left2 HA.out _ _))
                    go_wp2_with fail
                    go_roundw
                    case rel => exact ⟨k + 1, _, by omega, by go_num, by first | rfl | exact World.drewN_drewN _ _ _⟩
                    case measure => simp [intOf]; omega
                · as_aux_lemma =>
                    have HO : ∀ m, Calls Tryd.prog 18 #[.pointer (some ⟨qO, 0, none⟩), .int .i64 (k : Int)] (w12.drewN m) fun e w' => e = .returned (.bool true) ∧ w12.drewN m = w' := fun m => by
                      have h := has_in (w12.drewN m) _ _ qO _ k (hO.drewN m) (by omega)
                      rwa [at_or (by omega), hx, hy, show (false || true) = true from rfl] at h
                    have HC : ∀ m, Calls Tryd.prog 18 #[.pointer (some ⟨qC, 0, none⟩), .int .i64 (k : Int)] (w12.drewN m) fun e w' => e = .returned (.bool false) ∧ w12.drewN m = w' := fun m => by
                      have h := has_in (w12.drewN m) _ _ qC _ k (hC.drewN m) (by omega)
                      rwa [at_and (by omega), hx, hy, show (false && true) = false from rfl] at h
                    have HM : ∀ m, Calls Tryd.prog 18 #[.pointer (some ⟨qM, 0, none⟩), .int .i64 (k : Int)] (w12.drewN m) fun e w' => e = .returned (.bool false) ∧ w12.drewN m = w' := fun m => by
                      have h := has_in (w12.drewN m) _ _ qM _ k (hM.drewN m) (by omega)
                      rwa [at_minus (by omega), hx, hy, show (false && !true) = false from rfl] at h
                    have HA : ∀ m, Calls Tryd.prog 18 #[.pointer (some ⟨p1, 0, none⟩), .int .i64 (k : Int)] (w12.drewN m) fun e w' => e = .returned (.bool false) ∧ w12.drewN m = w' := fun m => by
                      have h := has_in (w12.drewN m) _ _ p1 _ k (hA.drewN m) (by omega)
                      rwa [hx] at h
                    have hLi : ∀ m, (Instr.lookup 43 (.map (some w3.heap.size)) (.int .i64 (k : Int)) false).run Tryd.prog (w12.drewN m) = .ok (.int .i64 0) (w12.drewN m) := fun m => by
                      have h := (hMi.drewN m).look (i := k) (by omega)
                      rwa [hx, show bI false = 0 from rfl] at h
                    have hLo : ∀ m, (Instr.lookup 43 (.map (some (w3.heap.size + 1))) (.int .i64 (k : Int)) false).run Tryd.prog (w12.drewN m) = .ok (.int .i64 1) (w12.drewN m) := fun m => by
                      have h := (hMo.drewN m).look (i := k) (by omega)
                      rwa [hy, show bI true = 1 from rfl] at h
                    have HO := Lib.hid HO
                    have HC := Lib.hid HC
                    have HM := Lib.hid HM
                    have HA := Lib.hid HA
                    go_wp2_with fail
                    try dsimp only [List.append]
                    go_quiet (first | (go_at_call 18; with_reducible exact quiet_add_left2 HO.out _ _) | (go_at_call 18; with_reducible exact quiet_add_left2 HC.out _ _) | (go_at_call 18; with_reducible exact quiet_add_left2 HM.out _ _) | (go_at_call 18; with_reducible exact quiet_add_left2 HA.out _ _))
                    go_wp2_with fail
                    go_roundw
                    case rel => exact ⟨k + 1, _, by omega, by go_num, by first | rfl | exact World.drewN_drewN _ _ _⟩
                    case measure => simp [intOf]; omega
              · cases hy : at_ lb k
                · as_aux_lemma =>
                    have HO : ∀ m, Calls Tryd.prog 18 #[.pointer (some ⟨qO, 0, none⟩), .int .i64 (k : Int)] (w12.drewN m) fun e w' => e = .returned (.bool true) ∧ w12.drewN m = w' := fun m => by
                      have h := has_in (w12.drewN m) _ _ qO _ k (hO.drewN m) (by omega)
                      rwa [at_or (by omega), hx, hy, show (true || false) = true from rfl] at h
                    have HC : ∀ m, Calls Tryd.prog 18 #[.pointer (some ⟨qC, 0, none⟩), .int .i64 (k : Int)] (w12.drewN m) fun e w' => e = .returned (.bool false) ∧ w12.drewN m = w' := fun m => by
                      have h := has_in (w12.drewN m) _ _ qC _ k (hC.drewN m) (by omega)
                      rwa [at_and (by omega), hx, hy, show (true && false) = false from rfl] at h
                    have HM : ∀ m, Calls Tryd.prog 18 #[.pointer (some ⟨qM, 0, none⟩), .int .i64 (k : Int)] (w12.drewN m) fun e w' => e = .returned (.bool true) ∧ w12.drewN m = w' := fun m => by
                      have h := has_in (w12.drewN m) _ _ qM _ k (hM.drewN m) (by omega)
                      rwa [at_minus (by omega), hx, hy, show (true && !false) = true from rfl] at h
                    have HA : ∀ m, Calls Tryd.prog 18 #[.pointer (some ⟨p1, 0, none⟩), .int .i64 (k : Int)] (w12.drewN m) fun e w' => e = .returned (.bool true) ∧ w12.drewN m = w' := fun m => by
                      have h := has_in (w12.drewN m) _ _ p1 _ k (hA.drewN m) (by omega)
                      rwa [hx] at h
                    have hLi : ∀ m, (Instr.lookup 43 (.map (some w3.heap.size)) (.int .i64 (k : Int)) false).run Tryd.prog (w12.drewN m) = .ok (.int .i64 1) (w12.drewN m) := fun m => by
                      have h := (hMi.drewN m).look (i := k) (by omega)
                      rwa [hx, show bI true = 1 from rfl] at h
                    have hLo : ∀ m, (Instr.lookup 43 (.map (some (w3.heap.size + 1))) (.int .i64 (k : Int)) false).run Tryd.prog (w12.drewN m) = .ok (.int .i64 0) (w12.drewN m) := fun m => by
                      have h := (hMo.drewN m).look (i := k) (by omega)
                      rwa [hy, show bI false = 0 from rfl] at h
                    have HO := Lib.hid HO
                    have HC := Lib.hid HC
                    have HM := Lib.hid HM
                    have HA := Lib.hid HA
                    go_wp2_with fail
                    try dsimp only [List.append]
                    go_quiet (first | (go_at_call 18; with_reducible exact quiet_add_left2 HO.out _ _) | (go_at_call 18; with_reducible exact quiet_add_left2 HC.out _ _) | (go_at_call 18; with_reducible exact quiet_add_left2 HM.out _ _) | (go_at_call 18; with_reducible exact quiet_add_left2 HA.out _ _))
                    go_wp2_with fail
                    go_roundw
                    case rel => exact ⟨k + 1, _, by omega, by go_num, by first | rfl | exact World.drewN_drewN _ _ _⟩
                    case measure => simp [intOf]; omega
                · as_aux_lemma =>
                    have HO : ∀ m, Calls Tryd.prog 18 #[.pointer (some ⟨qO, 0, none⟩), .int .i64 (k : Int)] (w12.drewN m) fun e w' => e = .returned (.bool true) ∧ w12.drewN m = w' := fun m => by
                      have h := has_in (w12.drewN m) _ _ qO _ k (hO.drewN m) (by omega)
                      rwa [at_or (by omega), hx, hy, show (true || true) = true from rfl] at h
                    have HC : ∀ m, Calls Tryd.prog 18 #[.pointer (some ⟨qC, 0, none⟩), .int .i64 (k : Int)] (w12.drewN m) fun e w' => e = .returned (.bool true) ∧ w12.drewN m = w' := fun m => by
                      have h := has_in (w12.drewN m) _ _ qC _ k (hC.drewN m) (by omega)
                      rwa [at_and (by omega), hx, hy, show (true && true) = true from rfl] at h
                    have HM : ∀ m, Calls Tryd.prog 18 #[.pointer (some ⟨qM, 0, none⟩), .int .i64 (k : Int)] (w12.drewN m) fun e w' => e = .returned (.bool false) ∧ w12.drewN m = w' := fun m => by
                      have h := has_in (w12.drewN m) _ _ qM _ k (hM.drewN m) (by omega)
                      rwa [at_minus (by omega), hx, hy, show (true && !true) = false from rfl] at h
                    have HA : ∀ m, Calls Tryd.prog 18 #[.pointer (some ⟨p1, 0, none⟩), .int .i64 (k : Int)] (w12.drewN m) fun e w' => e = .returned (.bool true) ∧ w12.drewN m = w' := fun m => by
                      have h := has_in (w12.drewN m) _ _ p1 _ k (hA.drewN m) (by omega)
                      rwa [hx] at h
                    have hLi : ∀ m, (Instr.lookup 43 (.map (some w3.heap.size)) (.int .i64 (k : Int)) false).run Tryd.prog (w12.drewN m) = .ok (.int .i64 1) (w12.drewN m) := fun m => by
                      have h := (hMi.drewN m).look (i := k) (by omega)
                      rwa [hx, show bI true = 1 from rfl] at h
                    have hLo : ∀ m, (Instr.lookup 43 (.map (some (w3.heap.size + 1))) (.int .i64 (k : Int)) false).run Tryd.prog (w12.drewN m) = .ok (.int .i64 1) (w12.drewN m) := fun m => by
                      have h := (hMo.drewN m).look (i := k) (by omega)
                      rwa [hy, show bI true = 1 from rfl] at h
                    have HO := Lib.hid HO
                    have HC := Lib.hid HC
                    have HM := Lib.hid HM
                    have HA := Lib.hid HA
                    go_wp2_with fail
                    try dsimp only [List.append]
                    go_quiet (first | (go_at_call 18; with_reducible exact quiet_add_left2 HO.out _ _) | (go_at_call 18; with_reducible exact quiet_add_left2 HC.out _ _) | (go_at_call 18; with_reducible exact quiet_add_left2 HM.out _ _) | (go_at_call 18; with_reducible exact quiet_add_left2 HA.out _ _))
                    go_wp2_with fail
                    go_roundw
                    case rel => exact ⟨k + 1, _, by omega, by go_num, by first | rfl | exact World.drewN_drewN _ _ _⟩
                    case measure => simp [intOf]; omega
            · have hn : ∃ wz, wz = w12.drewN n := ⟨_, rfl⟩
              clear hn
              have hA := hA.drewN n
              have hB := hB.drewN n
              have hO := hO.drewN n
              have hC := hC.drewN n
              have hM := hM.drewN n
              have hK := hK.drewN n
              have hbw := Lib.hid (below_drewN hbw.out n)
              have e1 := ru5 (x := la) (y := lb) (by omega)
              have e2 := ru6 (x := la) (y := lb) (by omega)
              have k1 := cnt_le (at_ la) la.length
              have k2 := cnt_le (at_ lb) lb.length
              change Bs.count la ≤ _ at k1
              change Bs.count lb ≤ _ at k2
              have E1 := Lib.hid e1
              have E2 := Lib.hid e2
              clear e1 e2 hMi hMo
              have hTz := HT.out.below hbw.out hg
              have hgz : 0 < (w12.drewN n).heap.size := Nat.lt_of_lt_of_le hg hbw.out.size
              have szn : (w12.drewN n).heap.size ≤ w12.heap.size := Nat.le_refl _
              have szn2 : w12.heap.size ≤ (w12.drewN n).heap.size := Nat.le_refl _
              generalize w12.drewN n = wz at *
              have cO := count_any wz _ _ qO _ hO
              have cC := count_any wz _ _ qC _ hC
              have cA := count_any wz _ _ p1 _ hA
              have cB := count_any wz _ _ p2 _ hB
              have cM := count_any wz _ _ qM _ hM
              generalize hnO : Bs.count (orL (la) (lb)) = nO at cO
              generalize hnC : Bs.count (andL (la) (lb)) = nC at cC
              generalize hnM : Bs.count (minusL (la) (lb)) = nM at cM
              generalize hnA : Bs.count la = nA at cA
              generalize hnB : Bs.count lb = nB at cB
              have e1 : nO + nC = nA + nB := by have := E1.out; omega
              have e2 : nM + nC = nA := by have := E2.out; omega
              have b1 : nA ≤ 300 := by omega
              have b2 : nB ≤ 300 := by omega
              have f1 : (((nO : Nat) : Int) + (nC : Int) != (nA : Int) + (nB : Int)) = false := by simp; omega
              have f2 : (((nM : Nat) : Int) + (nC : Int) != (nA : Int)) = false := by simp; omega
              have o1 : ((nO : Nat) : Int) ≤ 600 := by omega
              have o2 : ((nC : Nat) : Int) ≤ 600 := by omega
              have o3 : ((nM : Nat) : Int) ≤ 600 := by omega
              have o4 : ((nA : Nat) : Int) ≤ 600 := by omega
              have o5 : ((nB : Nat) : Int) ≤ 600 := by omega
              have cO := Lib.hid cO
              have cC := Lib.hid cC
              have cA := Lib.hid cA
              have cB := Lib.hid cB
              have cM := Lib.hid cM
              clear e1 e2 hnO hnC hnM hnA hnB k1 k2
              go_wp2_with fail
              refine cO.out.mono ?_
              rintro e w' ⟨rfl, rfl⟩
              go_wp2_with fail
              refine cC.out.mono ?_
              rintro e w' ⟨rfl, rfl⟩
              go_wp2_with fail
              refine cA.out.mono ?_
              rintro e w' ⟨rfl, rfl⟩
              go_wp2_with fail
              refine cB.out.mono ?_
              rintro e w' ⟨rfl, rfl⟩
              go_wp2_with fail
              refine cM.out.mono ?_
              rintro e w' ⟨rfl, rfl⟩
              go_wp2_with fail
              refine cC.out.mono ?_
              rintro e w' ⟨rfl, rfl⟩
              go_wp2_with fail
              refine cA.out.mono ?_
              rintro e w' ⟨rfl, rfl⟩
              go_wp2_with fail
              refine (setMinus_any wz _ _ qK _ _ qM _ _ hK hM (by omega) (by omega)).mono ?_
              rintro e w13 ⟨rfl, hK, ch13⟩
              have hK : BSet w13 w8.heap.size w9.heap.size qK (minusL (la) (minusL (la) (lb))) := hK
              have lnK : (minusL (la) (minusL (la) (lb))).length = N := by rw [minusL_len (by omega)]; exact lnK
              have sa13 : w13.heap.size ≤ wz.heap.size := Nat.le_of_eq ch13.size
              have sb13 : wz.heap.size ≤ w13.heap.size := Nat.le_of_eq ch13.size.symm
              have hA := hA.chg ch13 (by omega)
              have hB := hB.chg ch13 (by omega)
              have hO := hO.chg ch13 (by omega)
              have hC := hC.chg ch13 (by omega)
              have hM := hM.chg ch13 (by omega)
              have hbw := Lib.hid (hbw.out.trans (ch13.below (by omega)))
              have hTz := HT.out.below hbw.out hg
              have hgz : 0 < w13.heap.size := Nat.lt_of_lt_of_le hg hbw.out.size
              go_wp2_with fail
              refine (next_any w13 _ _ p1 la 0 hA hTz).mono ?_
              rintro e w' ⟨rfl, rfl⟩
              go_wp2_with fail
              refine (list_any w13 _ _ p1 la hA hTz hgz).mono ?_
              rintro e w14 ⟨v24, rfl, ho24, hb14⟩
              have sz14 := hb14.size
              have hA := hA.below_ hb14
              have hB := hB.below_ hb14
              have hO := hO.below_ hb14
              have hC := hC.below_ hb14
              have hM := hM.below_ hb14
              have hK := hK.below_ hb14
              have hbw := Lib.hid (Below.lift hbw.out hb14)
              have hTz := HT.out.below hbw.out hg
              have hsl := ho24.sl ic_len
              obtain ⟨A24, c24, rfl, _, _⟩ := hsl.shape
              have hll := upTo_length_le la la.length
              change (lst la).length ≤ _ at hll
              go_wp2_with fail
              go_loop [23, 25] (fun s23 s25 => ∃ i c : Nat, s25 = .int .i64 (i : Int) ∧ s23 = .int .i64 (next la c) ∧ c ≤ la.length ∧ Hid ((upTo la c).length = i) ∧ i ≤ (lst la).length) (fun _ s25 => (lst la).length - (intOf s25).toNat)
              case atStart => exact ⟨0, 0, rfl, rfl, Nat.zero_le _, rfl, Nat.zero_le _⟩
              case round =>
                obtain ⟨i, c, rfl, rfl, hc, hi, hile⟩ := hrel
                by_cases hlt : i < (lst la).length
                · obtain ⟨kk, hk1, hk2, hk3, hk4⟩ := lat_step hc hi.out hlt
                  obtain ⟨b, off, cc, e, _, _, _, _, h5⟩ := hsl.at_ hlt
                  injection e with e e' e''
                  subst e
                  rw [hk3] at h5
                  have hc0 : w14.cell? ⟨b, off + i, none⟩ = some (.int .i64 (kk : Int)) := by simpa using h5 0 _ rfl
                  have q1 : (0 : Int) ≤ (i : Int) := by omega
                  have q2 : (i : Int) < ((lst la).length : Int) := by omega
                  have q3 : (0 : Int) ≤ (kk : Int) := by omega
                  have q4 : (kk : Int) ≤ 300 := by omega
                  have q5 : ((kk : Int) != (kk : Int)) = false := bne_self_eq_false _
                  rw [hk1]
                  have HK4 := Lib.hid hk4
                  clear h5 e' e'' hk1 hk3 hk4 hi
                  have HN1 := next_any w14 _ _ p1 la (kk + 1) hA hTz
                  rw [show ((kk + 1 : Nat) : Int) = (kk : Int) + 1 from by omega] at HN1
                  have HN1 := Lib.hid HN1
                  go_wp2_with fail
                  refine HN1.out.mono ?_
                  rintro e w' ⟨rfl, rfl⟩
                  go_wp2_with fail
                  go_round
                  case rel => exact ⟨i + 1, kk + 1, by go_num, rfl, by omega, HK4.out, by omega⟩
                  case measure => simp [intOf]; omega
                · have hend := lat_end hi.out (by omega)
                  rw [hend]
                  clear hend
                  go_wp2_with fail
                  refine (setOr_any w14 _ _ qM _ _ qC _ _ hM hC (by omega) (by omega)).mono ?_
                  rintro e w15 ⟨rfl, hM, ch15⟩
                  have hM : BSet w15 w7.heap.size w8.heap.size qM (orL (minusL (la) (lb)) (andL (la) (lb))) := hM
                  have lnM : (orL (minusL (la) (lb)) (andL (la) (lb))).length = N := by rw [orL_len (by omega)]; exact lnM
                  have sa15 : w15.heap.size ≤ w14.heap.size := Nat.le_of_eq ch15.size
                  have sb15 : w14.heap.size ≤ w15.heap.size := Nat.le_of_eq ch15.size.symm
                  have hA := hA.chg ch15 (by omega)
                  have hB := hB.chg ch15 (by omega)
                  have hO := hO.chg ch15 (by omega)
                  have hC := hC.chg ch15 (by omega)
                  have hK := hK.chg ch15 (by omega)
                  have hbw := Lib.hid (hbw.out.trans (ch15.below (by omega)))
                  have e1 : minusL (la) (minusL (la) (lb)) = andL (la) (lb) := ru1 (by omega)
                  have e2 : orL (minusL (la) (lb)) (andL (la) (lb)) = la := ru2 (by omega)
                  go_wp2_with fail
                  refine (setSame_self w15 _ _ qK _ _ qC _ _ hK hC (e1)).mono ?_
                  rintro e w16x ⟨rfl, n16, rfl⟩
                  have hA := hA.drewN n16
                  have hB := hB.drewN n16
                  have hO := hO.drewN n16
                  have hC := hC.drewN n16
                  have hM := hM.drewN n16
                  have hK := hK.drewN n16
                  have hbw := Lib.hid (below_drewN hbw.out n16)
                  have sy16 : w15.heap.size ≤ (w15.drewN n16).heap.size := Nat.le_refl _
                  have sx16 : (w15.drewN n16).heap.size ≤ w15.heap.size := Nat.le_refl _
                  generalize w15.drewN n16 = w16 at *
                  go_wp2_with fail
                  refine (setSame_self w16 _ _ qM _ _ p1 _ _ hM hA (e2)).mono ?_
                  rintro e w17x ⟨rfl, n17, rfl⟩
                  have hA := hA.drewN n17
                  have hB := hB.drewN n17
                  have hO := hO.drewN n17
                  have hC := hC.drewN n17
                  have hM := hM.drewN n17
                  have hK := hK.drewN n17
                  have hbw := Lib.hid (below_drewN hbw.out n17)
                  have sy17 : w16.heap.size ≤ (w16.drewN n17).heap.size := Nat.le_refl _
                  have sx17 : (w16.drewN n17).heap.size ≤ w16.heap.size := Nat.le_refl _
                  generalize w16.drewN n17 = w17 at *
                  go_wp2_with fail
                  refine (setOr_any w17 _ _ p1 _ _ p1 _ _ hA hA (by omega) (.inr (.inr ⟨rfl, rfl⟩))).mono ?_
                  rintro e w18 ⟨rfl, hA, ch18⟩
                  have hA : BSet w18 w1.heap.size w2.heap.size p1 (orL (la) (la)) := hA
                  have lnA : (orL (la) (la)).length = N := by rw [orL_len (by omega)]; exact lnA
                  have sa18 : w18.heap.size ≤ w17.heap.size := Nat.le_of_eq ch18.size
                  have sb18 : w17.heap.size ≤ w18.heap.size := Nat.le_of_eq ch18.size.symm
                  have hB := hB.chg ch18 (by omega)
                  have hO := hO.chg ch18 (by omega)
                  have hC := hC.chg ch18 (by omega)
                  have hM := hM.chg ch18 (by omega)
                  have hK := hK.chg ch18 (by omega)
                  have hbw := Lib.hid (hbw.out.trans (ch18.below (by omega)))
                  go_wp2_with fail
                  refine (setSame_self w18 _ _ p1 _ _ qM _ _ hA hM (by rw [ru3, e2])).mono ?_
                  rintro e w19x ⟨rfl, n19, rfl⟩
                  have hA := hA.drewN n19
                  have hB := hB.drewN n19
                  have hO := hO.drewN n19
                  have hC := hC.drewN n19
                  have hM := hM.drewN n19
                  have hK := hK.drewN n19
                  have hbw := Lib.hid (below_drewN hbw.out n19)
                  have sy19 : w18.heap.size ≤ (w18.drewN n19).heap.size := Nat.le_refl _
                  have sx19 : (w18.drewN n19).heap.size ≤ w18.heap.size := Nat.le_refl _
                  generalize w18.drewN n19 = w19 at *
                  go_wp2_with fail
                  refine (setMinus_any w19 _ _ p1 _ _ p1 _ _ hA hA (by omega) (.inr (.inr ⟨rfl, rfl⟩))).mono ?_
                  rintro e w20 ⟨rfl, hA, ch20⟩
                  have hA : BSet w20 w1.heap.size w2.heap.size p1 (minusL (orL (la) (la)) (orL (la) (la))) := hA
                  have lnA : (minusL (orL (la) (la)) (orL (la) (la))).length = N := by rw [minusL_len (by omega)]; exact lnA
                  have sa20 : w20.heap.size ≤ w19.heap.size := Nat.le_of_eq ch20.size
                  have sb20 : w19.heap.size ≤ w20.heap.size := Nat.le_of_eq ch20.size.symm
                  have hB := hB.chg ch20 (by omega)
                  have hO := hO.chg ch20 (by omega)
                  have hC := hC.chg ch20 (by omega)
                  have hM := hM.chg ch20 (by omega)
                  have hK := hK.chg ch20 (by omega)
                  have hbw := Lib.hid (hbw.out.trans (ch20.below (by omega)))
                  go_wp2_with fail
                  refine (count_any w20 _ _ p1 _ hA).mono ?_
                  rintro e w' ⟨rfl, rfl⟩
                  rw [ru4]
                  go_wp2_with fail
                  go_ret
                  exact ⟨rfl, hbw.out⟩
end Go.Proofs.YtaaladekamfpnaaDoor
