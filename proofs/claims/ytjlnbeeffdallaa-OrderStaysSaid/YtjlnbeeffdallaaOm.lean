/- The walk of the statement OrderMerges. -/
import Derived.Test.YtjlnbeeffdallaaOl
namespace Go.Proofs.Ytjlnbeeffdallaa
open Go.RowKit

theorem Below.lift {a b c : World} (h : Below a.heap.size a b) (k : Below b.heap.size b c) : Below a.heap.size a c := h.trans (k.mono h.size)

set_option maxHeartbeats 2000000 in
theorem merges_any (va vb : Value) (la lb : List (Int × Int)) (w : World) {P Q : Nat → Prop} (ha : Sl kc 2 w va la P) (hb : Sl kc 2 w vb lb Q) :
    Calls Try.prog 3 #[va, vb] w fun r w' => r = .returned (.bool true) ∧ Below w.heap.size w w' := by
  obtain ⟨i0, hi0, hz0, hz1, hz2⟩ := info_parts info_Key
  obtain ⟨A, ca, rfl, ha1, ha2⟩ := ha.shape
  obtain ⟨B, cb, rfl, hb1, hb2⟩ := hb.shape
  by_cases hla : (200 : Int) < (la.length : Int)
  · go_enter Try.func3, Try.ntmps3
    go_wp2_with fail
    refine (lives_any _).mono ?_
    rintro e w1 ⟨rfl, hbel1⟩
    go_wp2_with fail
    go_ret
    exact ⟨rfl, hbel1⟩
  by_cases hlb : (200 : Int) < (lb.length : Int)
  · have hd : decide ((200 : Int) < (la.length : Int)) = false := decide_eq_false hla
    go_enter Try.func3, Try.ntmps3
    go_wp2_with fail
    refine (lives_any _).mono ?_
    rintro e w1 ⟨rfl, hbel1⟩
    go_wp2_with fail
    go_ret
    exact ⟨rfl, hbel1⟩
  have hd : decide ((200 : Int) < (la.length : Int)) = false := decide_eq_false hla
  have hd' : decide ((200 : Int) < (lb.length : Int)) = false := decide_eq_false hlb
  have la2 : la.length ≤ 200 := by omega
  have lb2 : lb.length ≤ 200 := by omega
  have lsa := Ms.srt_length la
  have lsb := Ms.srt_length lb
  have Hsa := Lib.hid lsa
  have Hsb := Lib.hid lsb
  clear lsa lsb hla hlb
  go_enter Try.func3, Try.ntmps3
  go_wp2_with fail
  refine (lives_any _).mono ?_
  rintro e w1 ⟨rfl, hbel1⟩
  go_wp2_with fail
  refine (sorted_any _ la _ ((ha.below_ hbel1).mono fun _ _ => trivial) (by omega)).mono ?_
  rintro e w2 ⟨v2, rfl, ho2, hbel2⟩
  go_wp2_with fail
  refine (sorted_any _ lb _ (((hb.below_ hbel1).below_ hbel2).mono fun _ _ => trivial) (by omega)).mono ?_
  rintro e w3 ⟨v3, rfl, ho3, hbel3⟩
  go_wp2_with fail
  refine (Merge_any _ _ (Ms.srt la) (Ms.srt lb) _ (((ho2.sl kc_len).below_ hbel3)) (ho3.sl kc_len) (by rw [Hsa.out, Hsb.out]; omega)).mono ?_
  rintro e w4 ⟨v4, rfl, ho4, hbel4⟩
  rw [Ms.merge_srt] at ho4
  have ha4 := ((ha.below_ hbel1).below_ (Below.lift hbel2 (Below.lift hbel3 hbel4)))
  have hb4 := ((hb.below_ hbel1).below_ (Below.lift hbel2 (Below.lift hbel3 hbel4)))
  go_wp2_with fail
  refine (ownKey_any _ la _ ha4 (by omega)).mono ?_
  rintro e w5 ⟨v5, rfl, ho5, hbel5⟩
  have hb5 := hb4.below_ hbel5
  have hzz := hbel5.size
  go_wp2_with (at_builtin; refine wpList_append_sl _ rfl (.tmp 23) (.tmp 24) _ rfl w4.heap.size 27 i0 _ 16 Try.underlying22 hi0 hz0 hz1 hz2 rfl (by omega) kc_len kc_one v5 _ la lb rfl rfl ho5 hb5 (by simp only [maxLen]; omega) (by omega) (by omega) ?_; intro v6 w6 ho6 hg6 hmv6)
  have hbel6 : Below w4.heap.size w4 w6 := hbel5.grown hg6 hbel5.size fun k hk => (ho5.lt hk).1
  refine (sorted_any _ (la ++ lb) _ ((ho6.sl kc_len).mono fun _ _ => trivial) (by rw [List.length_append]; omega)).mono ?_
  rintro e w7 ⟨v7, rfl, ho7, hbel7⟩
  have hbel47 := Below.lift hbel6 hbel7
  have ho4' := (ho4.sl kc_len).below_ hbel47
  go_wp2_with fail
  refine (sameKey_any _ _ (Ms.srt (la ++ lb)) (Ms.srt (la ++ lb)) _ ho4' (ho7.sl kc_len) (by rw [Ms.srt_length, List.length_append]; omega)).mono ?_
  rintro e w8 ⟨rfl, n8, rfl⟩
  rw [decide_eq_true rfl]
  have hbel8 : Below w.heap.size w (w7.drewN n8) := below_drewN (Below.lift hbel1 (Below.lift hbel2 (Below.lift hbel3 (Below.lift hbel4 hbel47)))) n8
  generalize w7.drewN n8 = w8 at *
  clear ho2 ho3 ho4 ho5 ho6 ho7 ho4' hbel1 hbel2 hbel3 hbel4 hbel5 hbel6 hbel7 hbel47 hg6 hmv6 ha4 hb4 hb5 hzz
  have ha8 := ha.below_ hbel8
  have hb8 := hb.below_ hbel8
  go_wp2_with fail
  refine (sorted_any _ la _ (ha8.mono fun _ _ => trivial) (by omega)).mono ?_
  rintro e w9 ⟨v9, rfl, ho9, hbel9⟩
  go_wp2_with fail
  refine (Merge_any _ _ (Ms.srt la) [] _ (ho9.sl kc_len) (Sl.nil_ (P := fun _ => True)) (by rw [Hsa.out, List.length_nil]; omega)).mono ?_
  rintro e w10 ⟨v10, rfl, ho10, hbel10⟩
  rw [List.merge_right] at ho10
  go_wp2_with fail
  refine (sorted_any _ la _ ((ha8.below_ (Below.lift hbel9 hbel10)).mono fun _ _ => trivial) (by omega)).mono ?_
  rintro e w11 ⟨v11, rfl, ho11, hbel11⟩
  go_wp2_with fail
  refine (sameKey_any _ _ (Ms.srt la) (Ms.srt la) _ ((ho10.sl kc_len).below_ hbel11) (ho11.sl kc_len) (by rw [Hsa.out]; omega)).mono ?_
  rintro e w12 ⟨rfl, n12, rfl⟩
  rw [decide_eq_true rfl]
  have hbel12 : Below w8.heap.size w8 (w11.drewN n12) := below_drewN (Below.lift hbel9 (Below.lift hbel10 hbel11)) n12
  generalize w11.drewN n12 = w12 at *
  clear ho9 ho10 ho11 hbel9 hbel10 hbel11
  have hb12 := hb8.below_ hbel12
  go_wp2_with fail
  refine (sorted_any _ lb _ (hb12.mono fun _ _ => trivial) (by omega)).mono ?_
  rintro e w13 ⟨v13, rfl, ho13, hbel13⟩
  go_wp2_with fail
  refine (Merge_any _ _ [] (Ms.srt lb) _ (Sl.nil_ (P := fun _ => True)) (ho13.sl kc_len) (by rw [Hsb.out, List.length_nil]; omega)).mono ?_
  rintro e w14 ⟨v14, rfl, ho14, hbel14⟩
  rw [List.nil_merge] at ho14
  go_wp2_with fail
  refine (sorted_any _ lb _ ((hb12.below_ (Below.lift hbel13 hbel14)).mono fun _ _ => trivial) (by omega)).mono ?_
  rintro e w15 ⟨v15, rfl, ho15, hbel15⟩
  go_wp2_with fail
  refine (sameKey_any _ _ (Ms.srt lb) (Ms.srt lb) _ ((ho14.sl kc_len).below_ hbel15) (ho15.sl kc_len) (by rw [Hsb.out]; omega)).mono ?_
  rintro e w16 ⟨rfl, n16, rfl⟩
  rw [decide_eq_true rfl]
  go_wp2_with fail
  go_ret
  exact ⟨rfl, below_drewN (Below.lift hbel8 (Below.lift hbel12 (Below.lift hbel13 (Below.lift hbel14 hbel15)))) n16⟩

end Go.Proofs.Ytjlnbeeffdallaa
