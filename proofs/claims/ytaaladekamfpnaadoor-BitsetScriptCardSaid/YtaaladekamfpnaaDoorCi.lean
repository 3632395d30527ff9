/- BitsetScript: the walk of the law where both widths are good: the loop. -/
import Derived.Test.YtaaladekamfpnaaDoorCh
import Derived.Test.YtaaladekamfpnaaDoorPk
import Derived.Deep.CutRange
import Derived.Deep.CutBlock
import Derived.Deep.DeepCutAuto
import Derived.Deep.RegionHeld3
import Derived.Test.YtaaladekamfpnaaDoorMx
namespace Go.Proofs.YtaaladekamfpnaaDoor
open Go.RowKit Bs

/-- An act in memory. -/
def ac (x : Int × Int) : List Value := [.int .i64 x.1, .int .i64 x.2]
theorem ac_len : ∀ x, (ac x).length = 2 := fun _ => rfl
/-- Between two rounds. -/
def ScRel (w1 : World) (n lo hi ps px : Nat) (s9 s13 s15 : Value) (wr : World) : Prop :=
  ∃ (k : Nat) (ls : List Bool) (gx lo' hi' pt : Nat) (lt : List Bool) (py gy : Nat), k ≤ n ∧ s15 = .int .i64 (k : Int) ∧ s9 = .pointer (some ⟨pt, 0, none⟩) ∧ s13 = .pointer (some ⟨py, 0, none⟩) ∧ Four w1.heap.size wr lo hi ps ls px gx ls lo' hi' pt lt py gy lt ∧ Below w1.heap.size w1 wr

set_option maxRecDepth 100000 in
set_option maxHeartbeats 8000000 in
theorem script_ok (n m : Nat) (va : Value) (l : List (Int × Int)) (w : World) {P : Nat → Prop} (hl : Sl ac 2 w va l P) (hT : Tab w) (hg : 0 < w.heap.size) (hlen : l.length ≤ 150) (hn : n ≤ 2000) (hm : m ≤ 2000) :
    Calls Tryd.prog 7 #[.int .i64 (n : Int), .int .i64 (m : Int), va] w fun e w' => e = .returned (.bool true) ∧ Below w.heap.size w w' := by
  obtain ⟨A, ca, rfl, ha1, ha2⟩ := hl.shape
  have HL := Lib.hid (lives_any w hT hg)
  have HN := Lib.hid (fun w => new_ok n w (by omega))
  have HM := Lib.hid (fun w => new_ok m w (by omega))
  have RN := Lib.hid (fun w => rnew_ok n w (by omega))
  have RM := Lib.hid (fun w => rnew_ok m w (by omega))
  have q0 : ¬ (150 : Int) < (l.length : Int) := by omega
  have a1 : ¬ (2000 : Int) < (n : Int) := by omega
  have a2 : ¬ (2000 : Int) < (m : Int) := by omega
  have HT0 := Lib.hid hT
  clear hn hm hT
  go_enter Tryd.func7, Tryd.ntmps7
  go_wp2_with fail
  refine HL.out.mono ?_
  rintro e w1 ⟨rfl, hb⟩
  have HT := Lib.hid (HT0.out.below hb hg)
  have hg1 := Nat.lt_of_lt_of_le hg hb.size
  have hl1 := hl.below_ hb
  have Hb := Lib.hid hb
  clear hb hl HT0
  go_wp2_with fail
  refine (HN.out w1).mono ?_
  rintro e w2 ⟨ps, rfl, hs, hb2⟩
  go_wp2_with fail
  refine (HM.out w2).mono ?_
  rintro e w3 ⟨pt0, rfl, ht, hb3⟩
  go_wp2_with fail
  refine (RN.out w3).mono ?_
  rintro e w4 ⟨px, gx0, rfl, hx, hx1, hx2, hb4⟩
  go_wp2_with fail
  refine (RM.out w4).mono ?_
  rintro e w5 ⟨py0, gy0, rfl, hy, hy1, hy2, hb5⟩
  have HF := Lib.hid (Four.start hs hb2 ht hb3 hx hb4 hx1 hx2 hy hb5 hy1 hy2)
  have HB0 := Lib.hid (Below.lift hb2 (Below.lift hb3 (Below.lift hb4 hb5)))
  clear hs hb2 ht hb3 hx hb4 hx1 hx2 hy hb5 hy1 hy2 HL HN HM RN RM
  have e2 : ∃ lo hi, lo = w1.heap.size ∧ hi = w2.heap.size := ⟨_, _, rfl, rfl⟩
  obtain ⟨lo, hi, hlo, hhi⟩ := e2
  have HS := Lib.hid (show ScRel w1 l.length lo hi ps px (.pointer (some ⟨pt0, 0, none⟩)) (.pointer (some ⟨py0, 0, none⟩)) (.int .i64 ((0 : Nat) : Int)) w5 from ⟨0, _, _, _, _, _, _, _, _, Nat.zero_le _, rfl, rfl, rfl, by rw [hlo, hhi]; exact HF.out, HB0.out⟩)
  clear hlo hhi HF HB0
  go_wp2_with fail
  go_loopw [9, 13, 15] (fun s9 s13 s15 wr => ScRel w1 l.length lo hi ps px s9 s13 s15 wr) (fun _ _ s15 _ => l.length - (intOf s15).toNat)
  case atStart => exact HS.out
  case round =>
    clear HS
    obtain ⟨k, ls, gx, lo', hi', pt, lt, py, gy, hk, rfl, rfl, rfl, hF, hbel⟩ := hrel
    by_cases hlt : k < l.length
    · obtain ⟨b, off, c, e, h1, h2, h3, _, h5⟩ := (hl1.below_ hbel).at_ hlt
      injection e with e e' e''
      subst e
      obtain ⟨K, I, HKI⟩ : ∃ K I, Hid (l[k] = (K, I)) := ⟨_, _, Lib.hid rfl⟩
      rw [HKI.out] at h5
      have hc0 : wr.cell? ⟨b, off + k * 2, none⟩ = some (.int .i64 K) := by simpa using h5 0 _ rfl
      have hc1 : wr.cell? ⟨b, off + k * 2 + 1, none⟩ = some (.int .i64 I) := by simpa using h5 1 _ rfl
      have q1 : (0 : Int) ≤ (k : Int) := by omega
      have q2 : (k : Int) < (l.length : Int) := by omega
      have hp0 := pick_lt K 9 (by omega)
      have HP := Lib.hid (fun wx => pick_any K 9 wx (by omega) (by omega))
      obtain ⟨q, hq⟩ : ∃ q, K % 9 = q := ⟨_, rfl⟩
      rw [hq] at hp0
      simp only [hq] at HP
      have z1 : hi ≤ wr.heap.size := hF.s.hi_le
      have z2 : hi' ≤ wr.heap.size := hF.t.hi_le
      have z3 := hF.x.lt
      have z4 := hF.y.lt
      have HF := Lib.hid hF
      have HBl := Lib.hid hbel
      clear h5 e' e'' hF hbel HKI hq
      go_wp2_with fail
      refine (HP.out _).mono ?_
      rintro e w' ⟨rfl, rfl⟩
      have HA := Lib.hid (show Rd w1 wr.heap.size I (wr.alloc (.cells #[.int .i64 K, .int .i64 I] 50)) lo hi ps ls px gx ls lo' hi' pt lt py gy lt from
        ⟨HF.out.grow ((Below.refl _ _).alloc (Nat.le_refl _) _), by rw [cell_of_row _ wr.heap.size 1 _ _ (0, 0) (heap_alloc_new wr _)]; rfl, by simp, HBl.out.alloc HBl.out.size _⟩)
      generalize wr.alloc (.cells #[.int .i64 K, .int .i64 I] 50) = wa at *
      generalize wr.heap.size = za at *
      clear HF HBl hc0 hc1 h1 h2 h3
      go_upto_block 2 with fail
      go_cut [9, 13, 17] (fun s9 s13 s17 wx => Meet w1 za I lo hi ps px s9 s13 s17 wx)
      case first =>
        have hq9 : q = 0 ∨ q = 1 ∨ q = 2 ∨ q = 3 ∨ q = 4 ∨ q = 5 ∨ q = 6 ∨ q = 7 ∨ q = 8 := by omega
        clear hp0 HP
        rcases hq9 with rfl | rfl | rfl | rfl | rfl | rfl | rfl | rfl | rfl
        ·
          as_aux_lemma =>
            have hca := HA.out.act
            have t1 : (newI ls I == newI ls I) = true := beq_self_eq_true _
            have t2 : (errI ls I == errI ls I) = true := beq_self_eq_true _
            go_wp2_with fail
            refine (put_int _ _ _ _ _ I HA.out.four.s).mono ?_
            rintro e wb ⟨rfl, hs1, hc1⟩
            replace HA := Lib.hid (HA.out.onS hc1 hs1 (.inr z1))
            have hcb := HA.out.act
            go_wp2_with fail
            refine (rput_int _ _ _ _ I HA.out.four.x).mono ?_
            rintro e wc ⟨rfl, hs2, hc2⟩
            have R := HA.out.onX hc2 hs2 (Nat.ne_of_gt z3.2)
            clear hs1 hc1 hs2 hc2
            go_wp2_with fail
            go_meet
            exact ⟨rfl, _, _, _, _, _, _, _, _, rfl, rfl, R⟩
        ·
          as_aux_lemma =>
            have hca := HA.out.act
            have t1 : (newI ls I == newI ls I) = true := beq_self_eq_true _
            have t2 : (errI ls I == errI ls I) = true := beq_self_eq_true _
            go_wp2_with fail
            refine (put_int _ _ _ _ _ I HA.out.four.s).mono ?_
            rintro e wb ⟨rfl, hs1, hc1⟩
            replace HA := Lib.hid (HA.out.onS hc1 hs1 (.inr z1))
            have hcb := HA.out.act
            go_wp2_with fail
            refine (rput_int _ _ _ _ I HA.out.four.x).mono ?_
            rintro e wc ⟨rfl, hs2, hc2⟩
            have R := HA.out.onX hc2 hs2 (Nat.ne_of_gt z3.2)
            clear hs1 hc1 hs2 hc2
            go_wp2_with fail
            go_meet
            exact ⟨rfl, _, _, _, _, _, _, _, _, rfl, rfl, R⟩
        ·
          as_aux_lemma =>
            have hca := HA.out.act
            have t1 : (newI lt I == newI lt I) = true := beq_self_eq_true _
            have t2 : (errI lt I == errI lt I) = true := beq_self_eq_true _
            go_wp2_with fail
            refine (put_int _ _ _ _ _ I HA.out.four.t).mono ?_
            rintro e wb ⟨rfl, hs1, hc1⟩
            replace HA := Lib.hid (HA.out.onT hc1 hs1 (.inr z2))
            have hcb := HA.out.act
            go_wp2_with fail
            refine (rput_int _ _ _ _ I HA.out.four.y).mono ?_
            rintro e wc ⟨rfl, hs2, hc2⟩
            have R := HA.out.onY hc2 hs2 (Nat.ne_of_gt z4.2)
            clear hs1 hc1 hs2 hc2
            go_wp2_with fail
            go_meet
            exact ⟨rfl, _, _, _, _, _, _, _, _, rfl, rfl, R⟩
        ·
          as_aux_lemma =>
            have hca := HA.out.act
            have t1 : (hasI ls I == hasI ls I) = true := beq_self_eq_true _
            have t2 : (errI ls I == errI ls I) = true := beq_self_eq_true _
            go_wp2_with fail
            refine (take_int _ _ _ _ _ I HA.out.four.s).mono ?_
            rintro e wb ⟨rfl, hs1, hc1⟩
            replace HA := Lib.hid (HA.out.onS hc1 hs1 (.inr z1))
            have hcb := HA.out.act
            go_wp2_with fail
            refine (rtake_int _ _ _ _ I HA.out.four.x).mono ?_
            rintro e wc ⟨rfl, hs2, hc2⟩
            have R := HA.out.onX hc2 hs2 (Nat.ne_of_gt z3.2)
            clear hs1 hc1 hs2 hc2
            go_wp2_with fail
            go_meet
            exact ⟨rfl, _, _, _, _, _, _, _, _, rfl, rfl, R⟩
        ·
          by_cases hlm : ls.length = lt.length
          · as_aux_lemma =>
              go_wp2_with fail
              refine (setOr_any _ _ _ _ _ _ _ _ _ HA.out.four.s HA.out.four.t hlm (by have := HA.out.four.st; omega)).mono ?_
              rintro e wb ⟨rfl, hs1, hc1⟩
              replace HA := Lib.hid (HA.out.onS hc1 hs1 (.inr z1))
              go_wp2_with fail
              refine (rOr_any _ _ _ _ _ _ _ HA.out.four.x HA.out.four.y hlm (Ne.symm HA.out.four.xy2)).mono ?_
              rintro e wc ⟨rfl, hs2, hc2⟩
              have R := HA.out.onX hc2 hs2 (Nat.ne_of_gt z3.2)
              clear hs1 hc1 hs2 hc2
              go_wp2_with fail
              go_meet
              exact ⟨rfl, _, _, _, _, _, _, _, _, rfl, rfl, R⟩
          · as_aux_lemma =>
              go_wp2_with fail
              refine (setOr_arg _ _ _ _ _ _ _ _ _ HA.out.four.s HA.out.four.t hlm).mono ?_
              rintro e w' ⟨rfl, m1, rfl⟩
              go_wp2_with fail
              refine (rOr_arg _ _ _ _ _ _ _ (HA.out.drewN m1).four.x (HA.out.drewN m1).four.y hlm).mono ?_
              rintro e w' ⟨rfl, m2, rfl⟩
              have R := HA.out.drewN (m1 + m2)
              go_wp2_with fail
              go_meet
              exact ⟨rfl, _, _, _, _, _, _, _, _, rfl, rfl, R⟩
        ·
          by_cases hlm : ls.length = lt.length
          · as_aux_lemma =>
              go_wp2_with fail
              refine (setAnd_any _ _ _ _ _ _ _ _ _ HA.out.four.s HA.out.four.t hlm (by have := HA.out.four.st; omega)).mono ?_
              rintro e wb ⟨rfl, hs1, hc1⟩
              replace HA := Lib.hid (HA.out.onS hc1 hs1 (.inr z1))
              go_wp2_with fail
              refine (rAnd_any _ _ _ _ _ _ _ HA.out.four.x HA.out.four.y hlm (Ne.symm HA.out.four.xy2)).mono ?_
              rintro e wc ⟨rfl, hs2, hc2⟩
              have R := HA.out.onX hc2 hs2 (Nat.ne_of_gt z3.2)
              clear hs1 hc1 hs2 hc2
              go_wp2_with fail
              go_meet
              exact ⟨rfl, _, _, _, _, _, _, _, _, rfl, rfl, R⟩
          · as_aux_lemma =>
              go_wp2_with fail
              refine (setAnd_arg _ _ _ _ _ _ _ _ _ HA.out.four.s HA.out.four.t hlm).mono ?_
              rintro e w' ⟨rfl, m1, rfl⟩
              go_wp2_with fail
              refine (rAnd_arg _ _ _ _ _ _ _ (HA.out.drewN m1).four.x (HA.out.drewN m1).four.y hlm).mono ?_
              rintro e w' ⟨rfl, m2, rfl⟩
              have R := HA.out.drewN (m1 + m2)
              go_wp2_with fail
              go_meet
              exact ⟨rfl, _, _, _, _, _, _, _, _, rfl, rfl, R⟩
        ·
          by_cases hlm : ls.length = lt.length
          · as_aux_lemma =>
              go_wp2_with fail
              refine (setMinus_any _ _ _ _ _ _ _ _ _ HA.out.four.s HA.out.four.t hlm (by have := HA.out.four.st; omega)).mono ?_
              rintro e wb ⟨rfl, hs1, hc1⟩
              replace HA := Lib.hid (HA.out.onS hc1 hs1 (.inr z1))
              go_wp2_with fail
              refine (rMinus_any _ _ _ _ _ _ _ HA.out.four.x HA.out.four.y hlm).mono ?_
              rintro e wc ⟨rfl, hs2, hc2⟩
              have R := HA.out.onX hc2 hs2 (Nat.ne_of_gt z3.2)
              clear hs1 hc1 hs2 hc2
              go_wp2_with fail
              go_meet
              exact ⟨rfl, _, _, _, _, _, _, _, _, rfl, rfl, R⟩
          · as_aux_lemma =>
              go_wp2_with fail
              refine (setMinus_arg _ _ _ _ _ _ _ _ _ HA.out.four.s HA.out.four.t hlm).mono ?_
              rintro e w' ⟨rfl, m1, rfl⟩
              go_wp2_with fail
              refine (rMinus_arg _ _ _ _ _ _ _ (HA.out.drewN m1).four.x (HA.out.drewN m1).four.y hlm).mono ?_
              rintro e w' ⟨rfl, m2, rfl⟩
              have R := HA.out.drewN (m1 + m2)
              go_wp2_with fail
              go_meet
              exact ⟨rfl, _, _, _, _, _, _, _, _, rfl, rfl, R⟩
        ·
          as_aux_lemma =>
            go_wp2_with fail
            refine (setClear_any _ _ _ _ _ HA.out.four.s).mono ?_
            rintro e wb ⟨rfl, hs1, hc1⟩
            replace HA := Lib.hid (HA.out.onS hc1 hs1 (.inr z1))
            go_wp2_with fail
            refine (rclear_any _ _ _ _ HA.out.four.x).mono ?_
            rintro e wc ⟨rfl, gx', hgx, hs2, hc2⟩
            have R := HA.out.clearX hc2 hs2 hgx (Nat.ne_of_gt z3.1)
            clear hs1 hc1 hs2 hc2
            go_wp2_with fail
            go_meet
            exact ⟨rfl, _, _, _, _, _, _, _, _, rfl, rfl, R⟩
        ·
          as_aux_lemma =>
            go_wp2_with fail
            refine (clone_any _ _ _ _ _ HA.out.four.s).mono ?_
            rintro e wb ⟨pt', rfl, hs1, hc1⟩
            go_wp2_with fail
            refine (rclone_any _ _ _ _ (HA.out.grow hc1).four.x).mono ?_
            rintro e wc ⟨py', gy', rfl, hs2, hp2, hg2, hc2⟩
            have R := HA.out.cloneT hs1 hc1 hs2 hc2 hp2 hg2
            clear hs1 hc1 hs2 hc2
            go_wp2_with fail
            go_meet
            exact ⟨rfl, _, _, _, _, _, _, _, _, rfl, rfl, R⟩
      case rest =>
        obtain ⟨rfl, LS, LT, gx1, lo1, hi1, pt1, py1, gy1, rfl, rfl, hR⟩ := hcut
        obtain ⟨capx, h0⟩ := hR.rt
        have hlst := Nat.le_trans (lst_le LS) hR.four.s.le
        have hlst2 := Nat.le_trans (lst_le LT) hR.four.t.le
        have hn1 : (((lst LS).length : Int) != ((lst LS).length : Int)) = false := bne_self_eq_false _
        have hn2 : (next LS I.toNat != next LS I.toNat) = false := bne_self_eq_false _
        have hn3 : (hasI LS I != hasI LS I) = false := bne_self_eq_false _
        have hn4 : (sameL LS LT != sameL LS LT) = false := bne_self_eq_false _
        have hn5 : ((LS.length : Int) != (LS.length : Int)) = false := bne_self_eq_false _
        have H0 := Lib.hid h0
        clear hR h0 HA z1 z2 z3 z4 HP hp0
        go_wp2_with fail
        try dsimp only [List.append]
        refine wp_region_mix [6, 12, 14, 20, 22] [0, 1, 2, 3, 4, 5, 6, 7, 8, 9, 10, 11, 13, 12, 14, 15, 16, 17, 18, 19, 21, 20, 22, 23, 24, 25, 26, 27, 28, 29, 30, 31, 32, 33, 34, 35, 36, 37, 38, 39, 40, 41, 42, 43, 44, 45, 46, 47, 48, 49, 50, 51, 52, 53, 54, 55, 56, 57, 58, 59, 60, 61, 62, 63, 64, 65, 66] (by kernel_rfl) (by kernel_rfl) ?_
        repeat (refine wpMix_one (by rfl) rfl ?_; go_big_quiet_step ((go_at_call 15; exact quiet_of_eq (countL_any _ _ _ _ _ (H0.out.drewN _).rd.four.s))); refine wpQuiet_nil ?_)
        refine wpMix_serial (by rfl) rfl (fun n1 => ?_)
        go_wp2_with fail
        refine (rlist_any _ _ _ _ (H0.out.drewN _).rd.four.x).mono ?_
        rintro e wA ⟨vA, rfl, ho1, hb1⟩
        obtain ⟨AA, cA, rfl, _, _⟩ := ho1.shape
        have H1 := Lib.hid (H0.out.growl hb1)
        clear ho1 hb1 H0
        go_wp2_with fail
        show wpMix _ _ _ _ _ _ _
        repeat (refine wpMix_one (by rfl) rfl ?_; go_big_quiet_step (fail); refine wpQuiet_nil ?_)
        refine wpMix_serial (by rfl) rfl (fun n2 => ?_)
        go_wp2_with fail
        refine (list_any _ _ _ _ _ (H1.out.drewN _).rd.four.s ((H1.out.drewN _).tabn HT.out hg1).1 ((H1.out.drewN _).tabn HT.out hg1).2).mono ?_
        rintro e w2' ⟨v2, rfl, ho2, hb2⟩
        have H2 := Lib.hid (H1.out.growl hb2)
        have HB := Lib.hid (ho2.sl ic_len)
        clear ho2 hb2 H1
        go_wp2_with fail
        show wpMix _ _ _ _ _ _ _
        refine wpMix_serial (by rfl) rfl (fun n3 => ?_)
        go_wp2_with fail
        refine (rlist_any _ _ _ _ (H2.out.drewN _).rd.four.x).mono ?_
        rintro e w3' ⟨v3, rfl, ho3, hb3⟩
        have H3 := Lib.hid (H2.out.growl hb3)
        have HB2 := Lib.hid ((HB.out.drewN _).below_ hb3)
        have HC := Lib.hid (ho3.sl ic_len)
        clear ho3 hb3 H2 HB
        go_wp2_with fail
        show wpMix _ _ _ _ _ _ _
        repeat (refine wpMix_one (by rfl) rfl ?_; go_big_quiet_step ((go_at_call 13; exact Calls.quiet_of (sameInt_self _ _ (lst LS) _ (HB2.out.drewN _) (HC.out.drewN _) hlst))); refine wpQuiet_nil ?_)
        clear HB2 HC
        refine wpMix_serial (by rfl) rfl (fun n4 => ?_)
        go_wp2_with fail
        refine (list_any _ _ _ _ _ (H3.out.drewN _).rd.four.t ((H3.out.drewN _).tabn HT.out hg1).1 ((H3.out.drewN _).tabn HT.out hg1).2).mono ?_
        rintro e w5' ⟨v5, rfl, ho5, hb5⟩
        have H5 := Lib.hid (H3.out.growl hb5)
        have HD := Lib.hid (ho5.sl ic_len)
        clear ho5 hb5 H3
        go_wp2_with fail
        show wpMix _ _ _ _ _ _ _
        refine wpMix_serial (by rfl) rfl (fun n6 => ?_)
        go_wp2_with fail
        refine (rlist_any _ _ _ _ (H5.out.drewN _).rd.four.y).mono ?_
        rintro e w6' ⟨v6, rfl, ho6, hb6⟩
        have H6 := Lib.hid (H5.out.growl hb6)
        have HD2 := Lib.hid ((HD.out.drewN _).below_ hb6)
        have HE := Lib.hid (ho6.sl ic_len)
        clear ho6 hb6 H5 HD
        go_wp2_with fail
        show wpMix _ _ _ _ _ _ _
        have hact := H6.out.rd.act
        have hcx := H6.out.cx
        repeat (refine wpMix_one (by rfl) rfl ?_; go_big_quiet_step ((first
            | (go_at_call 13; exact Calls.quiet_of (sameInt_self _ _ (lst LT) _ (HD2.out.drewN _) (HE.out.drewN _) hlst2))
            | (go_at_call 17; exact quiet_of_eq (next_int _ _ _ _ _ I (H6.out.drewN _).rd.four.s ((H6.out.drewN _).tabn HT.out hg1).1))
            | (go_at_call 35; exact quiet_of_eq (rnext_any _ _ _ _ I (H6.out.drewN _).rd.four.x))
            | (go_at_call 18; exact quiet_of_eq (has_int _ _ _ _ _ I (H6.out.drewN _).rd.four.s))
            | (go_at_call 36; exact quiet_of_eq (rhas_int _ _ _ _ I (H6.out.drewN _).rd.four.x))
            | (go_at_call 19; exact Calls.quiet_of (sameL_any _ _ _ _ _ _ _ _ _ (H6.out.drewN _).rd.four.s (H6.out.drewN _).rd.four.t))
            | (go_at_call 37; exact Calls.quiet_of (rsameL_any _ _ _ _ _ _ _ (H6.out.drewN _).rd.four.x (H6.out.drewN _).rd.four.y))
            | (go_at_call 16; exact quiet_of_eq (width_any _ _ _ _ _ (H6.out.drewN _).rd.four.s)))); refine wpQuiet_nil ?_)
        refine wpMix_nil (fun nq => ?_)
        clear hact hcx HD2 HE
        go_wp2_with fail
        have R : ScRel w1 l.length lo hi ps px _ _ (.int .i64 ((k : Int) + 1)) _ := ⟨k + 1, _, _, _, _, _, _, _, _, by omega, by go_num, rfl, rfl, (H6.out.drewN nq).rd.four, (H6.out.drewN nq).rd.below⟩
        go_roundw
        case rel => first | exact R | ((repeat apply Exists.intro); exact ⟨R, rfl⟩)
        case measure => simp [intOf]; omega
    · have q1 : ¬ (k : Int) < (l.length : Int) := by omega
      go_wp2_with fail
      go_ret
      exact ⟨rfl, Below.lift Hb.out hbel⟩
end Go.Proofs.YtaaladekamfpnaaDoor
