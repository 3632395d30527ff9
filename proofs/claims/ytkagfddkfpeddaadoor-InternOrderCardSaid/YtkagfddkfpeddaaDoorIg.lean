/- The walk of the law InternOrder. -/
import Derived.Test.YtkagfddkfpeddaaDoorIf
namespace Go.Proofs.YtkagfddkfpeddaaDoor
open Go.RowKit Go.Maps It

def OrdRel (B : Nat) (w : World) (l : Nms) (y pa qa pb qb : Nat) (s : Value) (wr : World) : Prop :=
  ∃ (k : Nat) (va vb : Value), k ≤ l.length ∧ s = .int .i64 (k : Int) ∧ Two wr B pa qa va (newL [] (l.take k)) pb qb vb (newL [] (rot l y k)) ∧ Below B w wr
theorem order_long (va : Value) (n cap : Nat) (A : Option Addr) (i : Int) (w : World) (hT : Tabs w) (e : va = .slice A n cap) (h : 150 < n) : Calls Tryd.prog 3 #[va, .int .i64 i] w fun e w' => e = .returned (.bool true) ∧ Below w.heap.size w w' := by
  subst e
  have HL := Lib.hid (lives_any w hT)
  have q : (150 : Int) < (n : Int) := by omega
  go_enter Tryd.func3, Tryd.ntmps3
  go_wp2_with fail
  refine HL.out.mono ?_
  rintro e w1 ⟨rfl, hb⟩
  have HB := Lib.hid hb
  clear hb
  go_wp2_with fail
  go_ret
  exact ⟨rfl, HB.out⟩
set_option maxRecDepth 100000 in
set_option maxHeartbeats 2000000 in
theorem order_any (vl : Value) (l : Nms) (i : Int) (w : World) {P : Nat → Prop} (hs : Sl nc 1 w vl l P) (hx : ∀ x ∈ l, x.length ≤ maxLen) (hT : Tabs w) (hle : l.length ≤ 150) :
    Calls Tryd.prog 3 #[vl, .int .i64 i] w fun e w' => e = .returned (.bool true) ∧ Below w.heap.size w w' := by
  obtain ⟨A, cap, rfl, h1, h2⟩ := hs.shape
  have HL := Lib.hid (lives_any w hT)
  have q : ¬ (150 : Int) < (l.length : Int) := by omega
  have HP := Lib.hid (fun wx => pick_any i ((l.length : Int) + 1) wx (by omega) (by omega))
  obtain ⟨y, hy, hy2⟩ : ∃ y : Nat, i % ((l.length : Int) + 1) = (y : Int) ∧ y ≤ l.length := by
    have := pick_lt i ((l.length : Int) + 1) (by omega)
    obtain ⟨y, hy⟩ := Int.eq_ofNat_of_zero_le this.1
    exact ⟨y, hy, by omega⟩
  rw [hy] at HP
  have HT0 := Lib.hid hT
  have HX := Lib.hid hx
  have HS0 := Lib.hid hs
  have HN0 := Lib.hid (fun wx (h : Tabs wx) => new_any wx (.slice none 0 0) [] Sl.nil_ (by simp) h (P := fun _ => True))
  clear hT hx hs hy
  go_enter Tryd.func3, Tryd.ntmps3
  go_wp2_with fail
  refine HL.out.mono ?_
  rintro e w1 ⟨rfl, hb⟩
  have HT1 := Lib.hid (HT0.out.below hb)
  have HS1 := Lib.hid (HS0.out.below_ hb)
  have HB1 := Lib.hid hb
  clear hb HT0 HS0 HL
  go_wp2_with fail
  refine (HP.out _).mono ?_
  rintro e w' ⟨rfl, rfl⟩
  go_wp2_with fail
  refine (HN0.out _ HT1.out).mono ?_
  rintro e w2 (⟨_, pa, qa, va, rfl, hta, hb2⟩ | ⟨h0, _, _⟩)
  rotate_left 1
  · exact absurd rfl h0
  have HA := Lib.hid hta
  have HB2 := Lib.hid hb2
  clear hta hb2
  go_wp2_with fail
  refine (HN0.out _ (HT1.out.below HB2.out)).mono ?_
  rintro e w3 (⟨_, pb, qb, vb, rfl, htb, hb3⟩ | ⟨h0, _, _⟩)
  rotate_left 1
  · exact absurd rfl h0
  have H2 := Lib.hid (Two.start HA.out hb3 htb (Nat.le_refl _))
  have HB3 := Lib.hid (Below.lift HB2.out hb3)
  clear htb hb3 HA HB2 HP HN0
  have R0 := Lib.hid (show OrdRel w1.heap.size w1 l y pa qa pb qb (.int .i64 ((0 : Nat) : Int)) w3 from ⟨0, va, vb, Nat.zero_le _, rfl, H2.out, HB3.out⟩)
  clear H2 HB3
  go_wp2_with fail
  go_loopw [9] (fun s wr => OrdRel w1.heap.size w1 l y pa qa pb qb s wr) (fun s _ => l.length - (intOf s).toNat)
  case atStart => exact R0.out
  case round =>
    clear R0
    obtain ⟨k, ua, ub, hk, rfl, htw, hb⟩ := hrel
    by_cases hlt : k < l.length
    · obtain ⟨b', off, rfl⟩ := HS1.out.addr hlt
      have hc1 := (HS1.out.below_ hb).name hlt
      obtain ⟨q, hq⟩ : ∃ q, (k + y) % l.length = q := ⟨_, rfl⟩
      have hqlt : q < l.length := hq ▸ Nat.mod_lt _ (by omega)
      have HC2 := Lib.hid (fun (wx : World) (h : Below w1.heap.size w1 wx) => (HS1.out.below_ h).name hqlt)
      have hta := (newL_snoc (l.take k) [] l[k])
      rw [← List.take_succ_eq_append_getElem hlt] at hta
      have htb := newL_snoc (rot l y k) [] l[q]
      have hrs := rot_succ l y k
      rw [hq, List.getD_eq_getElem?_getD, List.getElem?_eq_getElem hqlt, Option.getD_some] at hrs
      rw [← hrs] at htb
      have hx1 := HX.out l[k] (List.getElem_mem hlt)
      have hx2 := HX.out l[q] (List.getElem_mem hqlt)
      generalize l[k] = x1 at *
      generalize l[q] = x2 at *
      have q1 : (0 : Int) ≤ (k : Int) := by omega
      have q2 : (k : Int) < (l.length : Int) := by omega
      have q3 : (0 : Int) ≤ (y : Int) := by omega
      have q4 : (y : Int) ≤ 150 := by omega
      have q5 : (0 : Int) ≤ (q : Int) := by omega
      have q6 : (q : Int) < (l.length : Int) := by omega
      have q7 : ((k : Int) + (y : Int)) % (l.length : Int) = (q : Int) := by
        have := Int.natCast_emod (k + y) l.length
        rw [hq, Int.natCast_add] at this
        exact this.symm
      have q8 : ((l.length : Int) == 0) = false := beq_eq_false_iff_ne.2 (by omega)
      have HTw := Lib.hid htw
      have HB := Lib.hid hb
      have HTA := Lib.hid hta
      have HTB := Lib.hid htb
      have HX1 := Lib.hid hx1
      have HX2 := Lib.hid hx2
      clear htw hb hta htb hx1 hx2 hrs hq
      go_wp2_with fail
      refine (add_any wr w1.heap.size pa qa ua _ x1 HTw.out.a HX1.out (HT1.out.below HB.out) HB.out.size).mono ?_
      rintro e w4 hadd
      have hb4 := hadd.below HTw.out.a HB.out
      obtain ⟨ua', rfl, htw4⟩ := HTw.out.addA hadd
      have hc2 := HC2.out w4 hb4
      have HB4 := Lib.hid hb4
      have HTw4 := Lib.hid htw4
      clear hadd hb4 htw4 hc1 HTw HB
      generalize addV (newL [] (l.take k)) x1 = av at *
      generalize addE (newL [] (l.take k)) x1 = ae at *
      go_wp2_with fail
      refine (add_any w4 w1.heap.size pb qb ub _ x2 HTw4.out.b HX2.out (HT1.out.below HB4.out) HB4.out.size).mono ?_
      rintro e w5 hadd
      have hb5 := hadd.below HTw4.out.b HB4.out
      obtain ⟨ub', rfl, htw5⟩ := HTw4.out.swap.addA hadd
      have R : OrdRel w1.heap.size w1 l y pa qa pb qb (.int .i64 ((k : Int) + 1)) w5 := ⟨k + 1, ua', ub', by omega, by go_num, by rw [HTA.out, HTB.out]; exact htw5.swap, hb5⟩
      have HR := Lib.hid R
      clear hadd hb5 htw5 R hc2 HTw4 HB4 q7
      generalize addV (newL [] (rot l y k)) x2 = bv at *
      generalize addE (newL [] (rot l y k)) x2 = be at *
      go_wp2_with fail
      go_roundw
      case rel => first | exact HR.out | ((repeat apply Exists.intro); exact ⟨HR.out, rfl⟩)
      case measure => simp [intOf]; omega
    · have hkr : k = l.length := by omega
      have q1 : ¬ (k : Int) < (l.length : Int) := by omega
      subst hkr
      rw [List.take_length] at htw
      have hp := perm_newL (r := l) (r' := rot l y l.length) (by omega) (by rw [rot_len]; omega) (fun x => (mem_rot l y x).symm)
      have HTw := Lib.hid htw
      have HB := Lib.hid hb
      have HP := Lib.hid hp
      clear htw hb hp
      go_wp2_with fail
      go_loop [10] (fun s => ∃ j : Nat, j ≤ l.length ∧ s = .int .i64 (j : Int)) (fun s => l.length - (intOf s).toNat)
      case atStart => exact ⟨0, Nat.zero_le _, rfl⟩
      case round =>
        obtain ⟨j, hj, rfl⟩ := hrel
        by_cases hlt2 : j < l.length
        · obtain ⟨b', off, rfl⟩ := HS1.out.addr hlt2
          have hc1 := (HS1.out.below_ HB.out).name hlt2
          have hx1 := HX.out l[j] (List.getElem_mem hlt2)
          have hcc := contains_perm HP.out l[j]
          generalize l[j] = x1 at *
          have q3 : (0 : Int) ≤ (j : Int) := by omega
          have q4 : (j : Int) < (l.length : Int) := by omega
          have HNa := Lib.hid (num_any wr _ pa qa ua _ x1 HTw.out.a hx1)
          have hnb := num_any wr _ pb qb ub _ x1 HTw.out.b hx1
          rw [← hcc] at hnb
          have HNb := Lib.hid hnb
          clear hnb hcc hx1
          generalize (newL [] l).contains x1 = cc at *
          generalize num (newL [] l) x1 = n1 at *
          generalize num (newL [] (rot l y l.length)) x1 = n2 at *
          have hne : (cc != cc) = false := bne_self_eq_false _
          go_wp2_with fail
          refine HNa.out.mono ?_
          rintro e w' ⟨rfl, rfl⟩
          go_wp2_with fail
          refine HNb.out.mono ?_
          rintro e w' ⟨rfl, rfl⟩
          go_wp2_with fail
          go_round
          case rel => exact ⟨j + 1, by omega, by go_num⟩
          case measure => simp [intOf]; omega
        · have q3 : ¬ (j : Int) < (l.length : Int) := by omega
          have hle2 := newL_le l []
          have HLa := Lib.hid (len_any wr _ pa qa ua _ HTw.out.a)
          have hlb := len_any wr _ pb qb ub _ HTw.out.b
          rw [← HP.out.length_eq] at hlb
          have HLb := Lib.hid hlb
          have HSa := Lib.hid (sorted_any wr _ pa qa ua _ HTw.out.a)
          have HSb := Lib.hid (fun w' h => sorted_any w' _ pb qb ub _ (HTw.out.b.below_ h))
          have hsr := srt_perm HP.out
          have hsl := srt_len (newL [] l)
          clear hlb
          rw [← hsr] at HSb
          clear hsr
          generalize srt (newL [] l) = sl at *
          generalize (newL [] l).length = nl at *
          have hsl' : sl.length ≤ 1048576 := by simp only [List.length_nil] at hle2; omega
          clear hle2 hsl
          go_wp2_with fail
          refine HLa.out.mono ?_
          rintro e w' ⟨rfl, rfl⟩
          go_wp2_with fail
          refine HLb.out.mono ?_
          rintro e w' ⟨rfl, rfl⟩
          have hbb : ((nl : Int) == (nl : Int)) = true := beq_self_eq_true _
          go_wp2_with fail
          refine HSa.out.mono ?_
          rintro e w6 ⟨v6, rfl, ho6, hb6⟩
          have HO6 := Lib.hid (ho6.sl nc_len)
          have HB6 := Lib.hid hb6
          clear ho6 hb6
          go_wp2_with fail
          refine (HSb.out _ HB6.out).mono ?_
          rintro e w7 ⟨v7, rfl, ho7, hb7⟩
          have HSame := Lib.hid (sameStr_self v6 v7 sl w7 (HO6.out.below_ hb7) (ho7.sl nc_len) hsl')
          have HB7 := Lib.hid hb7
          clear ho7 hb7
          go_wp2_with fail
          refine HSame.out.mono ?_
          rintro e w' ⟨rfl, nn, rfl⟩
          go_wp2_with fail
          go_ret
          exact ⟨rfl, below_drewN (Below.lift (Below.lift (Below.lift HB1.out HB.out) HB6.out) HB7.out) nn⟩
theorem order_all (vl : Value) (l : Nms) (i : Int) (w : World) {P : Nat → Prop} (hs : Sl nc 1 w vl l P) (hx : ∀ x ∈ l, x.length ≤ maxLen) (hT : Tabs w) :
    Calls Tryd.prog 3 #[vl, .int .i64 i] w fun e w' => e = .returned (.bool true) ∧ Below w.heap.size w w' := by
  by_cases h : l.length ≤ 150
  · exact order_any vl l i w hs hx hT h
  · obtain ⟨A, cap, e, _, _⟩ := hs.shape
    exact order_long vl l.length cap A i w hT e (by omega)
end Go.Proofs.YtkagfddkfpeddaaDoor
