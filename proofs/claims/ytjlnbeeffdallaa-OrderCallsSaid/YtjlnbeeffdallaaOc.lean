/- The walk of the statement OrderCalls. -/
import Derived.Test.YtjlnbeeffdallaaRu
import Derived.Test.YtjlnbeeffdallaaOm
namespace Go.Proofs.Ytjlnbeeffdallaa
open Go.RowKit

set_option maxHeartbeats 4000000 in
theorem calls_any (va vb vl : Value) (la lb : List (Int × Int)) (l : List Int) (x : Int) (w : World) {P Q R : Nat → Prop} (ha : Sl kc 2 w va la P) (hb : Sl kc 2 w vb lb Q) (hl : Sl ic 1 w vl l R) :
    Calls Try.prog 8 #[va, vb, vl, .int .i64 x] w fun r w' => r = .returned (.bool true) ∧ Below w.heap.size w w' := by
  obtain ⟨A, ca, rfl, ha1, ha2⟩ := ha.shape
  obtain ⟨B, cb, rfl, hb1, hb2⟩ := hb.shape
  obtain ⟨C, cc, rfl, hl1, hl2⟩ := hl.shape
  by_cases hla : (200 : Int) < (la.length : Int)
  · go_enter Try.func8, Try.ntmps8
    go_wp2_with fail
    refine (lives_any _).mono ?_
    rintro e w1 ⟨rfl, hbel1⟩
    go_wp2_with fail
    go_ret
    exact ⟨rfl, hbel1⟩
  have hd : decide ((200 : Int) < (la.length : Int)) = false := decide_eq_false hla
  by_cases hlb : (200 : Int) < (lb.length : Int)
  · go_enter Try.func8, Try.ntmps8
    go_wp2_with fail
    refine (lives_any _).mono ?_
    rintro e w1 ⟨rfl, hbel1⟩
    go_wp2_with fail
    go_ret
    exact ⟨rfl, hbel1⟩
  have hd' : decide ((200 : Int) < (lb.length : Int)) = false := decide_eq_false hlb
  by_cases hll : (200 : Int) < (l.length : Int)
  · go_enter Try.func8, Try.ntmps8
    go_wp2_with fail
    refine (lives_any _).mono ?_
    rintro e w1 ⟨rfl, hbel1⟩
    go_wp2_with fail
    go_ret
    exact ⟨rfl, hbel1⟩
  have hd'' : decide ((200 : Int) < (l.length : Int)) = false := decide_eq_false hll
  have la2 : la.length ≤ 200 := by omega
  have lb2 : lb.length ≤ 200 := by omega
  have ll2 : l.length ≤ 200 := by omega
  have Hsa := Lib.hid (Ms.srt_length la)
  have Hml := Lib.hid (show (la.merge lb leK).length ≤ 1048576 by rw [List.length_merge]; omega)
  have Hpl := Lib.hid (perm_length l)
  have Hul := Lib.hid (show (uq (sortI l)).length ≤ 1048576 by have := uq_length (sortI l); rw [sortI_length] at this; omega)
  clear hla hlb hll
  go_enter Try.func8, Try.ntmps8
  go_wp2_with fail
  refine (lives_any _).mono ?_
  rintro e w1 ⟨rfl, hbel1⟩
  have ha' := ha.below_ hbel1
  have hb' := hb.below_ hbel1
  have hl' := hl.below_ hbel1
  clear ha hb hl
  go_wp2_with fail
  refine (ownKey_any _ la _ ha' (by omega)).mono ?_
  rintro e w2 ⟨v2, rfl, ho2, hb2⟩
  go_wp2_with fail
  refine (sorted_any _ la _ ((ho2.sl kc_len).mono fun _ _ => trivial) (by omega)).mono ?_
  rintro e w3 ⟨v3, rfl, ho3, hb3⟩
  go_wp2_with fail
  refine (rsorted_any _ la _ (ha'.below_ (Below.lift hb2 hb3)) (by omega)).mono ?_
  rintro e w4 ⟨v4, rfl, ho4, hb4⟩
  go_wp2_with fail
  refine (sameKey_any _ _ (Ms.srt la) (Ms.srt la) _ ((ho3.sl kc_len).below_ hb4) (ho4.sl kc_len) (by rw [Hsa.out]; omega)).mono ?_
  rintro e w5 ⟨rfl, n5, rfl⟩
  rw [decide_eq_true rfl]
  have hbel5 : Below w1.heap.size w1 (w4.drewN n5) := below_drewN (Below.lift hb2 (Below.lift hb3 hb4)) n5
  generalize w4.drewN n5 = w5 at *
  clear ho2 ho3 ho4 hb2 hb3 hb4
  go_wp2_with fail
  refine (Merge_any _ _ la lb _ (ha'.below_ hbel5) (hb'.below_ hbel5) (by omega)).mono ?_
  rintro e w6 ⟨v6, rfl, ho6, hb6⟩
  have hbel6 := Below.lift hbel5 hb6
  go_wp2_with fail
  refine (rmerge_any _ _ la lb _ (ha'.below_ hbel6) (hb'.below_ hbel6) (by omega)).mono ?_
  rintro e w7 ⟨v7, rfl, ho7, hb7⟩
  go_wp2_with fail
  refine (sameKey_any _ _ (la.merge lb leK) (la.merge lb leK) _ ((ho6.sl kc_len).below_ hb7) (ho7.sl kc_len) Hml.out).mono ?_
  rintro e w8 ⟨rfl, n8, rfl⟩
  rw [decide_eq_true rfl]
  have hbel8 : Below w1.heap.size w1 (w7.drewN n8) := below_drewN (Below.lift hbel6 hb7) n8
  generalize w7.drewN n8 = w8 at *
  clear ho6 ho7 hb6 hb7 hbel6 hbel5
  go_wp2_with fail
  refine (ownI64_any _ l _ (hl'.below_ hbel8) (by omega)).mono ?_
  rintro e w9 ⟨v9, rfl, ho9, hb9⟩
  go_wp2_with fail
  refine (perm_any _ l _ (ho9.sl ic_len) (by omega)).mono ?_
  rintro e w10 ⟨v10, rfl, ho10, hb10⟩
  have hbel10 := Below.lift hbel8 (Below.lift hb9 hb10)
  go_wp2_with fail
  refine (rperm_any _ l _ (hl'.below_ hbel10) (by omega)).mono ?_
  rintro e w11 ⟨v11, rfl, ho11, hb11⟩
  go_wp2_with fail
  refine (sameInt_any _ _ (perm l) (perm l) _ ((ho10.sl ic_len).below_ hb11) (ho11.sl ic_len) (by rw [Hpl.out]; omega)).mono ?_
  rintro e w12 ⟨rfl, n12, rfl⟩
  rw [decide_eq_true rfl]
  have hbel12 : Below w1.heap.size w1 (w11.drewN n12) := below_drewN (Below.lift hbel10 hb11) n12
  generalize w11.drewN n12 = w12 at *
  clear ho9 ho10 ho11 hb9 hb10 hb11 hbel10 hbel8
  have hl12 := hl'.below_ hbel12
  go_wp2_with fail
  refine (rising_any _ l _ hl12 (by omega)).mono ?_
  rintro e w13 ⟨rfl, n13, rfl⟩
  go_wp2_with fail
  refine (rrising_any _ l _ (hl12.drewN n13) (by omega)).mono ?_
  rintro e w14 ⟨rfl, n14, rfl⟩
  generalize stepsB (fun a b => decide (a < b)) l = br at *
  have hbr : (br == br) = true := by cases br <;> rfl
  go_wp2_with fail
  refine (lower_any _ l x _ (hl12.drewN _) (by omega)).mono ?_
  rintro e w15 ⟨rfl, hb15⟩
  have hbel15 : Below w12.heap.size w12 w15 := ((below_drewN (Below.refl _ _) _).trans hb15)
  go_wp2_with fail
  refine (rlower_any _ l x _ (hl12.below_ hbel15) (by omega)).mono ?_
  rintro e w16 ⟨rfl, n16, rfl⟩
  go_wp2_with fail
  refine (upper_any _ l x _ ((hl12.below_ hbel15).drewN _) (by omega)).mono ?_
  rintro e w17 ⟨rfl, hb17⟩
  have hbel17 : Below w12.heap.size w12 w17 := Below.lift (below_drewN hbel15 n16) hb17
  go_wp2_with fail
  refine (rupper_any _ l x _ (hl12.below_ hbel17) (by omega)).mono ?_
  rintro e w18 ⟨rfl, n18, rfl⟩
  have hbel18 : Below w12.heap.size w12 (w17.drewN n18) := below_drewN hbel17 n18
  generalize w17.drewN n18 = w18 at *
  go_wp2_with fail
  refine (uniq_any _ l _ (hl12.below_ hbel18) (by omega)).mono ?_
  rintro e w19 ⟨v19, rfl, ho19, hb19⟩
  go_wp2_with fail
  refine (runiq_any _ l _ (hl12.below_ (Below.lift hbel18 hb19)) (by omega)).mono ?_
  rintro e w20 ⟨v20, rfl, ho20, hb20⟩
  go_wp2_with fail
  refine (sameI64_any _ _ (uq (sortI l)) (uq (sortI l)) _ ((ho19.sl ic_len).below_ hb20) (ho20.sl ic_len) Hul.out).mono ?_
  rintro e w21 ⟨rfl, n21, rfl⟩
  rw [decide_eq_true rfl]
  go_wp2_with fail
  go_ret
  exact ⟨rfl, below_drewN (Below.lift hbel1 (Below.lift hbel12 (Below.lift hbel18 (Below.lift hb19 hb20)))) n21⟩
end Go.Proofs.Ytjlnbeeffdallaa
