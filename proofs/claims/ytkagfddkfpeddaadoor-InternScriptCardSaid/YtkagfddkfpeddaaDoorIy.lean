/- The walk of the law InternScript. -/
import Derived.Test.YtkagfddkfpeddaaDoorIx
namespace Go.Proofs.YtkagfddkfpeddaaDoor
open Go.RowKit Go.Maps It


set_option maxRecDepth 100000 in
theorem script_long (va vb : Value) (n m cap cap' : Nat) (A A' : Option Addr) (at_ : Int) (w : World) (hT : Tabs w) (e : va = .slice A n cap) (e' : vb = .slice A' m cap') (h : 150 < n ∨ 150 < m) : Calls Tryd.prog 7 #[va, vb, .int .i64 at_] w fun e w' => e = .returned (.bool true) ∧ Below w.heap.size w w' := by
  subst e e'
  have HL := Lib.hid (lives_any w hT)
  by_cases hn : 150 < n
  · have q : decide ((150 : Int) < (n : Int)) = true := decide_eq_true (by omega)
    clear h hn
    go_enter Tryd.func7, Tryd.ntmps7
    go_wp2_with fail
    refine HL.out.mono ?_
    rintro e w1 ⟨rfl, hb⟩
    have HB := Lib.hid hb
    clear hb
    go_wp2_with fail
    go_ret
    exact ⟨rfl, HB.out⟩
  · have q : decide ((150 : Int) < (n : Int)) = false := decide_eq_false (by omega)
    have q2 : decide ((150 : Int) < (m : Int)) = true := decide_eq_true (by omega)
    clear h hn
    go_enter Tryd.func7, Tryd.ntmps7
    go_wp2_with fail
    refine HL.out.mono ?_
    rintro e w1 ⟨rfl, hb⟩
    have HB := Lib.hid hb
    clear hb
    go_wp2_with fail
    go_ret
    exact ⟨rfl, HB.out⟩
set_option maxRecDepth 100000 in
set_option maxHeartbeats 4000000 in
theorem script_any (vl vm : Value) (l m : Nms) (at_ : Int) (w : World) {P P2 : Nat → Prop} (hs : Sl nc 1 w vl l P) (hs2 : Sl nc 1 w vm m P2) (hx : ∀ x ∈ l, x.length ≤ maxLen) (hx2 : ∀ x ∈ m, x.length ≤ maxLen) (hT : Tabs w) (hle : l.length ≤ 150) (hle2 : m.length ≤ 150) :
    Calls Tryd.prog 7 #[vl, vm, .int .i64 at_] w fun e w' => e = .returned (.bool true) ∧ Below w.heap.size w w' := by
  obtain ⟨A, cap, rfl, h1, h2⟩ := hs.shape
  obtain ⟨A2, cap2, rfl, h3, h4⟩ := hs2.shape
  have HL := Lib.hid (lives_any w hT)
  have q : decide ((150 : Int) < (l.length : Int)) = false := decide_eq_false (by omega)
  have q' : decide ((150 : Int) < (m.length : Int)) = false := decide_eq_false (by omega)
  have HT0 := Lib.hid hT
  have HX := Lib.hid hx
  have HX2 := Lib.hid hx2
  have HS0 := Lib.hid hs
  have HS20 := Lib.hid hs2
  clear hT hx hs hx2 hs2
  go_enter Tryd.func7, Tryd.ntmps7
  go_wp2_with fail
  refine HL.out.mono ?_
  rintro e w1 ⟨rfl, hb⟩
  have HT1 := Lib.hid (HT0.out.below hb)
  have HS1 := Lib.hid (HS0.out.below_ hb)
  have HS21 := Lib.hid (HS20.out.below_ hb)
  have HB1 := Lib.hid hb
  clear hb HT0 HS0 HS20 HL
  go_wp2_with fail
  refine (nown_any w1 _ l HS1.out (by omega)).mono ?_
  rintro e w2 ⟨v2, rfl, ho2, hb2⟩
  have HO2 := Lib.hid (ho2.sl nc_len)
  have HB2 := Lib.hid hb2
  clear ho2 hb2
  go_wp2_with fail
  refine (new_any w2 v2 l HO2.out HX.out (HT1.out.below HB2.out)).mono ?_
  rintro e w3 (⟨h0, p, q0, v3, rfl, ht3, hb3⟩ | ⟨h0, rfl, hb3⟩)
  rotate_left 1
  · have HB3 := Lib.hid (Below.lift HB2.out hb3)
    have H0 := Lib.hid h0
    clear hb3 h0
    go_wp2_with fail
    refine (rnew_any w3 _ l (HS1.out.below_ HB3.out) HX.out).mono ?_
    rintro e w4 (⟨h0, _⟩ | ⟨_, rfl, hb4⟩)
    · exact absurd h0 H0.out
    have HB4 := Lib.hid (Below.lift HB1.out (Below.lift HB3.out hb4))
    have hne : (newE [] l != newE [] l) = false := bne_self_eq_false _
    clear hb4
    generalize newE [] l = ee at *
    go_wp2_with fail
    go_loop [11] (fun s => s = .int .i64 0) (fun _ => 0)
    case atStart => rfl
    case round =>
      subst hrel
      by_cases hm0 : 0 < m.length
      · have q3 : decide ((0 : Int) < (m.length : Int)) = true := decide_eq_true (by omega)
        have q4 : (0 : Int) < (m.length : Int) := by omega
        go_wp2_with fail
        go_ret
        exact ⟨rfl, HB4.out⟩
      · have q3 : decide ((0 : Int) < (m.length : Int)) = false := decide_eq_false (by omega)
        have q4 : ¬ (0 : Int) < (m.length : Int) := by omega
        have hm1 : m.length = 0 := by omega
        go_wp2_with fail
        go_ret
        exact ⟨rfl, HB4.out⟩
  · have HB3 := Lib.hid (Below.lift HB2.out hb3)
    have HB32 := Lib.hid hb3
    have H0 := Lib.hid h0
    have HT3 := Lib.hid ht3
    clear hb3 h0 ht3
    go_wp2_with fail
    refine (rnew_any w3 _ l (HS1.out.below_ HB3.out) HX.out).mono ?_
    rintro e w4 (⟨_, ps, vs, rfl, hs4, hb4⟩ | ⟨h0, _, _⟩)
    rotate_left 1
    · exact absurd H0.out h0
    have R0 := Lib.hid (show ScrRel w2.heap.size w2 l m p q0 ps (.int .i64 ((0 : Nat) : Int)) w4 from ⟨0, v3, vs, Nat.zero_le _, rfl, Pair.start HT3.out hb4 hs4 (Nat.le_refl _), Below.lift HB32.out hb4⟩)
    have HTb := Lib.hid (HT1.out.below HB2.out)
    have HS22 := Lib.hid (HS21.out.below_ HB2.out)
    have HB := Lib.hid (Below.lift HB1.out HB2.out)
    have hok := HT3.out.ok
    have HOk := Lib.hid hok
    clear hb4 hs4 hok HT1 HS1 HS21 HB1 HB2 HB3 HB32 HT3 HO2 H0
    go_wp2_with fail
    go_loopw [11] (fun s wr => ScrRel w2.heap.size w2 l m p q0 ps s wr) (fun s _ => m.length - (intOf s).toNat)
    case atStart => exact R0.out
    case round =>
      clear R0
      obtain ⟨k, va, vb, hk, rfl, hpr, hb⟩ := hrel
      by_cases hlt : k < m.length
      · obtain ⟨b', off, rfl⟩ := HS22.out.addr hlt
        have HC := Lib.hid (fun (wx : World) (h : Below w2.heap.size w2 wx) => (HS22.out.below_ h).name hlt)
        have hta := (newL_snoc (m.take k) l m[k])
        rw [← List.take_succ_eq_append_getElem hlt] at hta
        have hx1 := HX2.out m[k] (List.getElem_mem hlt)
        generalize m[k] = x at *
        have hln := newL_le (m.take k) l
        rw [List.length_take] at hln
        have hl1 : (newL l (m.take k)).length ≤ 300 := by omega
        obtain ⟨lk, hlk⟩ : ∃ lk, newL l (m.take k) = lk := ⟨_, rfl⟩
        rw [hlk] at hpr hta hl1
        have hla : (addL lk x).length ≤ 301 := Nat.le_trans (addL_le lk x) (by omega)
        have q1 : (0 : Int) ≤ (k : Int) := by omega
        have q2 : (k : Int) < (m.length : Int) := by omega
        have HPr := Lib.hid hpr
        have HB4 := Lib.hid hb
        have HTA := Lib.hid hta
        have HX1 := Lib.hid hx1
        clear hpr hb hta hx1 hlk hln
        go_wp2_with fail
        refine (clone_any wr _ p q0 va lk HPr.out.t).mono ?_
        rintro e w5 ⟨pc, qc, vc, rfl, htc, hb5⟩
        have HTc := Lib.hid htc
        have HB5 := Lib.hid hb5
        clear htc hb5
        go_wp2_with fail
        refine (rclone_any w5 _ ps vb lk (HPr.out.s.below_ HB5.out)).mono ?_
        rintro e w6 ⟨pu, vu, rfl, htu, hb6⟩
        have HQ := Lib.hid (HPr.out.quad HB5.out HTc.out (Nat.le_refl _) hb6 htu (Nat.le_refl _))
        have HB6 := Lib.hid (Below.lift HB4.out (Below.lift HB5.out hb6))
        have hcx := HC.out w6 HB6.out
        clear htu hb6 HPr HB4 HB5 HTc
        go_wp2_with fail
        refine (add_any w6 _ p q0 va lk x HQ.out.t HX1.out (HTb.out.below HB6.out) HB6.out.size).mono ?_
        rintro e w7 hadd
        have HB7 := Lib.hid (hadd.below HQ.out.t HB6.out)
        obtain ⟨va', rfl, hq7⟩ := HQ.out.addT hadd
        have HQ7 := Lib.hid hq7
        clear hadd hq7 hcx HQ HB6
        have hcx := HC.out w7 HB7.out
        go_wp2_with fail
        refine (radd_any w7 _ ps vb lk x HQ7.out.s HX1.out HB7.out.size).mono ?_
        rintro e w8 hadd
        have HB8 := Lib.hid (hadd.below HQ7.out.s HB7.out)
        obtain ⟨vb', rfl, hq8⟩ := HQ7.out.addS hadd
        have HQ8 := Lib.hid hq8
        clear hadd hq8 hcx HQ7 HB7
        have hcx := HC.out w8 HB8.out
        generalize addV lk x = av at *
        generalize addE lk x = ae at *
        generalize addL lk x = l2 at *
        have hnu := num_any w8 _ p q0 va' l2 x HQ8.out.t HX1.out
        have hrn := rnum_any w8 _ ps vb' l2 x HQ8.out.s
        have hna := nameAt_any w8 _ p q0 va' l2 at_ HQ8.out.t
        have hra := rname_at w8 _ ps vb' l2 at_ HQ8.out.s
        generalize num l2 x = nn at *
        generalize l2.contains x = cc at *
        generalize nameV l2 at_ = nv at *
        generalize nameB l2 at_ = nb at *
        have HNu := Lib.hid hnu
        have HRn := Lib.hid hrn
        have HNa := Lib.hid hna
        have HRa := Lib.hid hra
        clear hnu hrn hna hra
        go_wp2_with fail
        refine HNu.out.mono ?_
        rintro e w' ⟨rfl, rfl⟩
        go_wp2_with fail
        refine HRn.out.mono ?_
        rintro e w' ⟨rfl, rfl⟩
        go_wp2_with fail
        refine HNa.out.mono ?_
        rintro e w' ⟨rfl, rfl⟩
        go_wp2_with fail
        refine HRa.out.mono ?_
        rintro e w' ⟨rfl, rfl⟩
        clear hcx HNu HRn HNa HRa
        go_wp2_with fail
        try dsimp only [List.append]
        obtain ⟨As, cs, rfl, u1, u2, e1, _⟩ := HQ8.out.s.open_
        obtain ⟨Au, cu, rfl, u3, u4, e2, _⟩ := HQ8.out.u.open_
        have hSw := And.intro e1 e2
        have HSW := Lib.hid (fun (wx : World) (h : Below w8.heap.size w8 wx) => And.intro ((h.cell (p := ⟨ps, 0, none⟩) HQ8.out.s.lt).trans e1) ((h.cell (p := ⟨pu, 0, none⟩) HQ8.out.u.lt).trans e2))
        have g1 : (av != av) = false := bne_self_eq_false _
        have g2 : (ae != ae) = false := bne_self_eq_false _
        have g3 : ((nn : Int) != (nn : Int)) = false := bne_self_eq_false _
        have g4 : (cc != cc) = false := bne_self_eq_false _
        have g5 : ((ba nv).toList != (ba nv).toList) = false := bne_self_eq_false _
        have g6 : (nb != nb) = false := bne_self_eq_false _
        have g7 : ((l2.length : Int) != (l2.length : Int)) = false := bne_self_eq_false _
        have hl2 : l2.length ≤ 1048576 := by omega
        have hl1' : lk.length ≤ 1048576 := by omega
        refine wp_region_kinds (fun w' => w'.cell? ⟨ps, 0, none⟩ = some (.slice As l2.length cs) ∧ w'.cell? ⟨pu, 0, none⟩ = some (.slice Au lk.length cu)) [40, 50, 52, 58] [] [34, 44, 62] [38, 39, 41, 42, 43, 48, 49, 51, 56, 57, 59, 60, 61] [0, 1, 2, 3, 4, 5, 6, 7, 8, 9, 10, 11, 12, 13, 14, 15, 16, 17, 18, 19, 20, 21, 22, 23, 24, 25, 26, 27, 28, 29, 30, 31, 32, 33, 34, 35, 36, 37, 38, 39, 41, 42, 43, 44, 40, 45, 46, 47, 48, 49, 51, 50, 52, 53, 54, 55, 56, 57, 59, 60, 61, 62, 58, 63, 64, 65] (by kernel_rfl) (by kernel_rfl) (fun w n h => h) ?_
        repeat (first | (refine wpKind_free (v := ?_) (by rfl) rfl (by rfl) ?_ ?_; rotate_left 1; (focus (intro wy; go_simp; try with_reducible rfl; done)); try simp only [Act.put, List.setIfInBounds_toArray, List.set_cons_zero, List.set_cons_succ]) | (refine wpKind_held (v := ?_) (by rfl) rfl (by rfl) hSw ?_ ?_; rotate_left 1; (focus (intro wy hSy; obtain ⟨s0, s1⟩ := hSy; go_simp; try with_reducible rfl; done)); try simp only [Act.put, List.setIfInBounds_toArray, List.set_cons_zero, List.set_cons_succ]) | (refine wpKind_one (by rfl) rfl ?_; go_big_quiet_step ((go_at_call 14; exact quiet_of_eq (len_any _ _ p q0 va' l2 (HQ8.out.t.drewN _)))); refine wpQuiet_nil ?_))
        refine wpKind_keeps (by rfl) rfl (fun n1 => ?_)
        go_wp2_with fail
        refine (all_any _ _ p q0 va' l2 (HQ8.out.t.drewN n1)).mono ?_
        rintro e w9 ⟨v9, rfl, ho9, hb9⟩
        have hb9' : Below w8.heap.size w8 w9 := ⟨hb9.os, hb9.tape, hb9.output, hb9.size, hb9.block⟩
        have HO9 := Lib.hid (ho9.sl nc_len)
        have HB9 := Lib.hid hb9'
        have HS9 := Lib.hid ((HQ8.out.below_ hb9').s.row.sl nc_len)
        clear ho9 hb9 hb9' hSw
        go_wp2_with fail
        have hSw := HSW.out w9 HB9.out
        show _ ∧ _
        refine ⟨hSw, ?_⟩
        repeat (first | (refine wpKind_free (v := ?_) (by rfl) rfl (by rfl) ?_ ?_; rotate_left 1; (focus (intro wy; go_simp; try with_reducible rfl; done)); try simp only [Act.put, List.setIfInBounds_toArray, List.set_cons_zero, List.set_cons_succ]) | (refine wpKind_held (v := ?_) (by rfl) rfl (by rfl) hSw ?_ ?_; rotate_left 1; (focus (intro wy hSy; obtain ⟨s0, s1⟩ := hSy; go_simp; try with_reducible rfl; done)); try simp only [Act.put, List.setIfInBounds_toArray, List.set_cons_zero, List.set_cons_succ]) | (refine wpKind_one (by rfl) rfl ?_; go_big_quiet_step ((go_at_call 15; exact Calls.quiet_of (sameStr_self _ _ l2 _ (HO9.out.drewN _) (HS9.out.drewN _) hl2))); refine wpQuiet_nil ?_))
        clear HO9 HS9
        refine wpKind_keeps (by rfl) rfl (fun n2 => ?_)
        go_wp2_with fail
        refine (sorted_any _ _ p q0 va' l2 ((HQ8.out.below_ HB9.out).t.drewN n2)).mono ?_
        rintro e w10 ⟨v10, rfl, ho10, hb10⟩
        have hb10' : Below w9.heap.size w9 w10 := ⟨hb10.os, hb10.tape, hb10.output, hb10.size, hb10.block⟩
        have HO10 := Lib.hid (ho10.sl nc_len)
        have HB10 := Lib.hid (Below.lift HB9.out hb10')
        clear ho10 hb10 hb10' hSw HB9
        go_wp2_with fail
        have hSw := HSW.out w10 HB10.out
        show _ ∧ _
        refine ⟨hSw, ?_⟩
        refine wpKind_keeps (by rfl) rfl (fun n3 => ?_)
        go_wp2_with fail
        refine (rsorted_any _ _ ps _ l2 ((HQ8.out.below_ HB10.out).s.drewN n3)).mono ?_
        rintro e w11 ⟨v11, rfl, ho11, hb11⟩
        have hb11' : Below w10.heap.size w10 w11 := ⟨hb11.os, hb11.tape, hb11.output, hb11.size, hb11.block⟩
        have HO10' := Lib.hid (HO10.out.below_ hb11')
        have HO11 := Lib.hid (ho11.sl nc_len)
        have HB11 := Lib.hid (Below.lift HB10.out hb11')
        have hsl : (srt l2).length ≤ 1048576 := by rw [srt_len]; exact hl2
        clear ho11 hb11 hb11' hSw HB10 HO10
        go_wp2_with fail
        have hSw := HSW.out w11 HB11.out
        show _ ∧ _
        refine ⟨hSw, ?_⟩
        repeat (first | (refine wpKind_free (v := ?_) (by rfl) rfl (by rfl) ?_ ?_; rotate_left 1; (focus (intro wy; go_simp; try with_reducible rfl; done)); try simp only [Act.put, List.setIfInBounds_toArray, List.set_cons_zero, List.set_cons_succ]) | (refine wpKind_held (v := ?_) (by rfl) rfl (by rfl) hSw ?_ ?_; rotate_left 1; (focus (intro wy hSy; obtain ⟨s0, s1⟩ := hSy; go_simp; try with_reducible rfl; done)); try simp only [Act.put, List.setIfInBounds_toArray, List.set_cons_zero, List.set_cons_succ]) | (refine wpKind_one (by rfl) rfl ?_; go_big_quiet_step ((go_at_call 15; exact Calls.quiet_of (sameStr_self _ _ (srt l2) _ (HO10'.out.drewN _) (HO11.out.drewN _) hsl))); refine wpQuiet_nil ?_))
        clear HO10' HO11
        refine wpKind_keeps (by rfl) rfl (fun n4 => ?_)
        go_wp2_with fail
        refine (all_any _ _ pc qc vc lk ((HQ8.out.below_ HB11.out).c.drewN n4)).mono ?_
        rintro e w12 ⟨v12, rfl, ho12, hb12⟩
        have hb12' : Below w11.heap.size w11 w12 := ⟨hb12.os, hb12.tape, hb12.output, hb12.size, hb12.block⟩
        have HO12 := Lib.hid (ho12.sl nc_len)
        have HB12 := Lib.hid (Below.lift HB11.out hb12')
        have HS12 := Lib.hid ((HQ8.out.below_ HB12.out).u.row.sl nc_len)
        clear ho12 hb12 hb12' hSw HB11
        go_wp2_with fail
        have hSw := HSW.out w12 HB12.out
        show _ ∧ _
        refine ⟨hSw, ?_⟩
        repeat (first | (refine wpKind_free (v := ?_) (by rfl) rfl (by rfl) ?_ ?_; rotate_left 1; (focus (intro wy; go_simp; try with_reducible rfl; done)); try simp only [Act.put, List.setIfInBounds_toArray, List.set_cons_zero, List.set_cons_succ]) | (refine wpKind_held (v := ?_) (by rfl) rfl (by rfl) hSw ?_ ?_; rotate_left 1; (focus (intro wy hSy; obtain ⟨s0, s1⟩ := hSy; go_simp; try with_reducible rfl; done)); try simp only [Act.put, List.setIfInBounds_toArray, List.set_cons_zero, List.set_cons_succ]) | (refine wpKind_one (by rfl) rfl ?_; go_big_quiet_step ((go_at_call 15; exact Calls.quiet_of (sameStr_self _ _ lk _ (HO12.out.drewN _) (HS12.out.drewN _) hl1'))); refine wpQuiet_nil ?_))
        refine wpKind_nil (fun nq => ?_)
        clear hSw HO12 HS12 HSW e1 e2
        have R : ScrRel w2.heap.size w2 l m p q0 ps (.int .i64 ((k : Int) + 1)) (w12.drewN nq) := ⟨k + 1, va', _, by omega, by go_num, by rw [HTA.out]; exact ((HQ8.out.below_ HB12.out).drewN nq).pair, below_drewN (Below.lift HB8.out HB12.out) nq⟩
        have HR := Lib.hid R
        clear R
        go_wp2_with fail
        go_roundw
        case rel => first | exact HR.out | ((repeat apply Exists.intro); exact ⟨HR.out, rfl⟩)
        case measure => simp [intOf]; omega
      · have q1 : decide ((k : Int) < (m.length : Int)) = false := decide_eq_false (by omega)
        have q2 : ¬ (k : Int) < (m.length : Int) := by omega
        have HB9 := Lib.hid (Below.lift HB.out hb)
        clear hpr hb
        go_wp2_with fail
        go_ret
        exact ⟨rfl, HB9.out⟩
theorem script_all (vl vm : Value) (l m : Nms) (at_ : Int) (w : World) {P P2 : Nat → Prop} (hs : Sl nc 1 w vl l P) (hs2 : Sl nc 1 w vm m P2) (hx : ∀ x ∈ l, x.length ≤ maxLen) (hx2 : ∀ x ∈ m, x.length ≤ maxLen) (hT : Tabs w) :
    Calls Tryd.prog 7 #[vl, vm, .int .i64 at_] w fun e w' => e = .returned (.bool true) ∧ Below w.heap.size w w' := by
  by_cases h : l.length ≤ 150 ∧ m.length ≤ 150
  · exact script_any vl vm l m at_ w hs hs2 hx hx2 hT h.1 h.2
  · obtain ⟨A, cap, e, _, _⟩ := hs.shape
    obtain ⟨A', cap', e', _, _⟩ := hs2.shape
    exact script_long vl vm l.length m.length cap cap' A A' at_ w hT e e' (by omega)
end Go.Proofs.YtkagfddkfpeddaaDoor
