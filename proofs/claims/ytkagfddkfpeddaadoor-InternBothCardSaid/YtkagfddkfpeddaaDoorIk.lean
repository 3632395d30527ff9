/- The walk of the law InternBoth. -/
import Derived.Test.YtkagfddkfpeddaaDoorIj
import Derived.IntWalk
namespace Go.Proofs.YtkagfddkfpeddaaDoor
open Go.RowKit Go.Maps It

def BothRel (B : Nat) (w : World) (l : Nms) (p q : Nat) (h s : Value) (wr : World) : Prop :=
  ∃ (k : Nat) (v : Value), k ≤ l.length ∧ s = .int .i64 (k : Int) ∧ Beside wr B p q v (newL [] (l.take k)) h (newL [] (l.take k)) ∧ Below B w wr
set_option maxRecDepth 100000 in
theorem both_long (va : Value) (n cap : Nat) (A : Option Addr) (w : World) (hT : Tabs w) (e : va = .slice A n cap) (h : 150 < n) : Calls Tryd.prog 5 #[va] w fun e w' => e = .returned (.bool true) ∧ Below w.heap.size w w' := by
  subst e
  have HL := Lib.hid (lives_any w hT)
  have q : (150 : Int) < (n : Int) := by omega
  go_enter Tryd.func5, Tryd.ntmps5
  go_wp2_with fail
  refine HL.out.mono ?_
  rintro e w1 ⟨rfl, hb⟩
  have HB := Lib.hid hb
  clear hb
  go_wp2_with fail
  go_ret
  exact ⟨rfl, HB.out⟩
set_option maxRecDepth 100000 in
set_option maxHeartbeats 3000000 in
theorem both_any (vl : Value) (l : Nms) (w : World) {P : Nat → Prop} (hs : Sl nc 1 w vl l P) (hx : ∀ x ∈ l, x.length ≤ maxLen) (hT : Tabs w) (hle : l.length ≤ 150) :
    Calls Tryd.prog 5 #[vl] w fun e w' => e = .returned (.bool true) ∧ Below w.heap.size w w' := by
  obtain ⟨i0, hi0, hz0, hz1, hz2⟩ := info_parts info_string
  obtain ⟨A, cap, rfl, h1, h2⟩ := hs.shape
  have HL := Lib.hid (lives_any w hT)
  have q : ¬ (150 : Int) < (l.length : Int) := by omega
  have HT0 := Lib.hid hT
  have HX := Lib.hid hx
  have HS0 := Lib.hid hs
  have HN0 := Lib.hid (fun wx (h : Tabs wx) => new_any wx (.slice none 0 0) [] Sl.nil_ (by simp) h (P := fun _ => True))
  clear hT hx hs
  go_enter Tryd.func5, Tryd.ntmps5
  go_wp2_with fail
  refine HL.out.mono ?_
  rintro e w1 ⟨rfl, hb⟩
  have HT1 := Lib.hid (HT0.out.below hb)
  have HS1 := Lib.hid (HS0.out.below_ hb)
  have HB1 := Lib.hid hb
  clear hb HT0 HS0 HL
  go_wp2_with fail
  refine (HN0.out _ HT1.out).mono ?_
  rintro e w2 (⟨_, p, q0, v0, rfl, hta, hb2⟩ | ⟨h0, _, _⟩)
  rotate_left 1
  · exact absurd rfl h0
  have R0 := Lib.hid (show BothRel w1.heap.size w1 l p q0 (.slice none 0 0) (.int .i64 ((0 : Nat) : Int)) w2 from ⟨0, v0, Nat.zero_le _, rfl, ⟨hta, Ow.nil_, by simp [Value.ownBlock]⟩, hb2⟩)
  clear hta hb2 HN0
  go_wp2_with fail
  go_loopw [5, 6] (fun h s wr => BothRel w1.heap.size w1 l p q0 h s wr) (fun _ s _ => l.length - (intOf s).toNat)
  case atStart => exact R0.out
  case round =>
    clear R0
    obtain ⟨k, va, hk, rfl, hbe, hb⟩ := hrel
    by_cases hlt : k < l.length
    · obtain ⟨b', off, rfl⟩ := HS1.out.addr hlt
      have HC1 := Lib.hid (fun (wx : World) (h : Below w1.heap.size w1 wx) => (HS1.out.below_ h).name hlt)
      have hta := (newL_snoc (l.take k) [] l[k])
      rw [← List.take_succ_eq_append_getElem hlt] at hta
      have hx1 := HX.out l[k] (List.getElem_mem hlt)
      generalize l[k] = x1 at *
      have hlal := newL_le (l.take k) []
      rw [List.length_take] at hlal
      simp only [List.length_nil] at hlal
      have HTA := Lib.hid hta
      clear hta
      generalize hla : newL [] (l.take k) = la at *
      have hlal2 : la.length ≤ 150 := by omega
      obtain ⟨Ah, ch, rfl, k1, k2⟩ := hbe.h.shape
      have q1 : (0 : Int) ≤ (k : Int) := by omega
      have q2 : (k : Int) < (l.length : Int) := by omega
      have HBe := Lib.hid hbe
      have HB := Lib.hid hb
      have HX1 := Lib.hid hx1
      clear hbe hb hx1 hlal hla
      go_wp2_with fail
      go_loopw [7, 8] (fun th s wx => ∃ j nd : Nat, j ≤ la.length ∧ s = .int .i64 (j : Int) ∧ th = .bool ((la.take j).contains x1) ∧ wx = wr.drewN nd) (fun _ s _ => la.length - (intOf s).toNat)
      case atStart => exact ⟨0, 0, Nat.zero_le _, rfl, rfl, rfl⟩
      case round =>
        obtain ⟨j, nd, hj, rfl, rfl, rfl⟩ := hrel
        by_cases hlt2 : j < la.length
        · have hS := HBe.out.h.sl nc_len
          obtain ⟨bh, oh, rfl⟩ := hS.addr hlt2
          have hch := hS.name hlt2
          have hcx := HC1.out wr HB.out
          have hct := contains_take hlt2 x1
          generalize la[j] = y1 at *
          have q3 : (0 : Int) ≤ (j : Int) := by omega
          have q4 : (j : Int) < (la.length : Int) := by omega
          have HCT := Lib.hid hct
          clear hS hct
          cases hcj : (la.take j).contains x1
          · have hq : ((ba y1).toList == (ba x1).toList) = (y1 == x1) := by rw [ba_toList, ba_toList]
            rw [hcj] at HCT
            have HCJ := Lib.hid hcj
            clear hcj
            generalize (y1 == x1) = yx at *
            go_wp2_with fail
            go_quiet (fail)
            go_wp2_with fail
            go_roundw
            case rel => exact ⟨j + 1, _, by omega, by go_num, by rw [HCT.out, Bool.false_or], by first | rfl | exact World.drewN_drewN _ _ _⟩
            case measure => simp [intOf]; omega
          · rw [hcj] at HCT
            have HCJ := Lib.hid hcj
            clear hcj
            go_wp2_with fail
            go_quiet (fail)
            go_wp2_with fail
            go_roundw
            case rel => exact ⟨j + 1, _, by omega, by go_num, by rw [HCT.out, Bool.true_or], by first | rfl | exact World.drewN_drewN _ _ _⟩
            case measure => simp [intOf]; omega
        · have hkr : j = la.length := by omega
          have q3 : ¬ (j : Int) < (la.length : Int) := by omega
          subst hkr
          rw [List.take_length]
          generalize hcc : la.contains x1 = cc
          have HCc := Lib.hid hcc
          clear hcc
          have hcx := HC1.out (wr.drewN nd) (below_drewN HB.out nd)
          have HBe2 := Lib.hid (HBe.out.drewN nd)
          have HB2 := Lib.hid (below_drewN HB.out nd)
          clear HBe HB
          generalize wr.drewN nd = ws at *
          go_wp2_with fail
          refine (add_any _ w1.heap.size p q0 va la x1 HBe2.out.t HX1.out (HT1.out.below HB2.out) HB2.out.size).mono ?_
          rintro e w4 hadd
          have hb4 := hadd.below HBe2.out.t HB2.out
          obtain ⟨va', rfl, hbe4⟩ := HBe2.out.add hadd
          have hcx4 := HC1.out w4 hb4
          have hnm := rname_any (ba x1) w4 (by rw [ba_size]; exact HX1.out)
          rw [ba_list] at hnm
          have HNm := Lib.hid hnm
          have HBe4 := Lib.hid hbe4
          have HB4 := Lib.hid hb4
          clear hadd hb4 hbe4 HBe2 HB2 hcx hnm
          rcases add_cases la x1 with n1 | ⟨n1, n2⟩ | ⟨n1, n2, n3⟩ | ⟨n1, n2, n3⟩
          · obtain ⟨r1, r2, r3⟩ := add_name n1
            rw [r1, r2]
            rw [n1] at HNm
            rw [r3] at HBe4 HTA
            clear r1 r2 r3 n1
            go_wp2_with fail
            refine HNm.out.mono ?_
            rintro e w5 ⟨rfl, hb5⟩
            have R : BothRel w1.heap.size w1 l p q0 (.slice Ah la.length ch) (.int .i64 ((k : Int) + 1)) w5 := ⟨k + 1, va', by omega, by go_num, by rw [HTA.out]; exact HBe4.out.below_ hb5, Below.lift HB4.out hb5⟩
            have HR := Lib.hid R
            clear R hb5 hcx4
            go_wp2_with fail
            go_roundw
            case rel => first | exact HR.out | ((repeat apply Exists.intro); exact ⟨HR.out, rfl⟩)
            case measure => simp [intOf]; omega
          · obtain ⟨r1, r2, r3⟩ := add_there n1 n2
            rw [r1, r2]
            obtain rfl : cc = _ := HCc.out.symm.trans n2
            rw [n1] at HNm
            rw [r3] at HBe4 HTA
            clear r1 r2 r3 n1 n2
            go_wp2_with fail
            refine HNm.out.mono ?_
            rintro e w5 ⟨rfl, hb5⟩
            have R : BothRel w1.heap.size w1 l p q0 (.slice Ah la.length ch) (.int .i64 ((k : Int) + 1)) w5 := ⟨k + 1, va', by omega, by go_num, by rw [HTA.out]; exact HBe4.out.below_ hb5, Below.lift HB4.out hb5⟩
            have HR := Lib.hid R
            clear R hb5 hcx4
            go_wp2_with fail
            go_roundw
            case rel => first | exact HR.out | ((repeat apply Exists.intro); exact ⟨HR.out, rfl⟩)
            case measure => simp [intOf]; omega
          · omega
          · obtain ⟨r1, r2, r3⟩ := add_ok n1 n2 n3
            rw [r1, r2]
            obtain rfl : cc = _ := HCc.out.symm.trans n2
            rw [n1] at HNm
            rw [r3] at HBe4 HTA
            have hne : ((la.length : Int) != (la.length : Int)) = false := bne_self_eq_false _
            clear r1 r2 r3 n1 n2
            go_wp2_with fail
            refine HNm.out.mono ?_
            rintro e w5 ⟨rfl, hb5⟩
            have hcx5 := HC1.out w5 (Below.lift HB4.out hb5)
            have HBe5 := Lib.hid (HBe4.out.below_ hb5)
            have HB5 := Lib.hid (Below.lift HB4.out hb5)
            have hw5 : ∀ o, (w5.alloc o).heap.size = w5.heap.size + 1 := fun o => by simp
            clear hb5 hcx4 HBe4 HB4
            go_wp2_with (at_builtin; refine wpList_append_sl _ rfl _ _ _ rfl w1.heap.size 9 i0 _ 16 Tryd.underlying22 hi0 hz0 hz1 hz2 rfl (by omega) nc_len nc_one (.slice Ah la.length ch) _ la [x1] rfl rfl (HBe5.out.h.alloc _) (Sl.new1 (c := nc) (size := 1) x1 rfl) (by simp only [maxLen, List.length_cons, List.length_nil]; omega) (by simp only [List.length_cons, List.length_nil]; omega) (by have := HB5.out.size; rw [hw5]; omega) ?_; intro v6 w6 hown6 hg6 hmv6)
            have hbe6 := HBe5.out.append hown6 hg6 hmv6
            have hb6 := HBe5.out.belowB HB5.out HB5.out.size hg6
            obtain ⟨A6, cp6, rfl, j1, j2⟩ := hown6.shape
            have HBe6 := Lib.hid hbe6
            have HB6 := Lib.hid hb6
            have hl6 : (la ++ [x1]).length ≤ 151 := by simp; omega
            generalize la ++ [x1] = la6 at *
            clear hown6 hg6 hmv6 hbe6 hb6 hcx5 HBe5 HB5 hw5
            go_wp2_with fail
            go_loop [11] (fun s => ∃ j : Nat, j ≤ la6.length ∧ s = .int .i64 (j : Int)) (fun s => la6.length - (intOf s).toNat)
            case atStart => exact ⟨0, Nat.zero_le _, rfl⟩
            case round =>
              obtain ⟨j, hj, rfl⟩ := hrel
              by_cases hlt3 : j < la6.length
              · have hS := HBe6.out.h.sl nc_len
                obtain ⟨bh, oh, rfl⟩ := hS.addr hlt3
                have hch := hS.name hlt3
                have hok := HBe6.out.t.ok
                have hln := Nm.name_len (hok.nm _ (List.getElem_mem hlt3))
                have hnu := num_any w6 _ p q0 va' la6 la6[j] HBe6.out.t (by unfold maxLen; omega)
                rw [num_at hok.nd hlt3, List.contains_iff_mem.2 (List.getElem_mem hlt3)] at hnu
                have hna := nameAt_any w6 _ p q0 va' la6 (j : Int) HBe6.out.t
                rw [show nameV la6 (j : Int) = la6[j] from by unfold nameV; rw [if_pos (by omega), Int.toNat_natCast, List.getD_eq_getElem?_getD, List.getElem?_eq_getElem hlt3]; rfl, show nameB la6 (j : Int) = true from decide_eq_true (by omega)] at hna
                generalize la6[j] = y1 at *
                have q3 : (0 : Int) ≤ (j : Int) := by omega
                have q4 : (j : Int) < (la6.length : Int) := by omega
                have hn3 : ((j : Int) != (j : Int)) = false := bne_self_eq_false _
                have hn4 : ((ba y1).toList != (ba y1).toList) = false := bne_self_eq_false _
                have HNu := Lib.hid hnu
                have HNa := Lib.hid hna
                clear hnu hna hln hok hS
                go_wp2_with fail
                refine HNu.out.mono ?_
                rintro e w' ⟨rfl, rfl⟩
                go_wp2_with fail
                refine HNa.out.mono ?_
                rintro e w' ⟨rfl, rfl⟩
                go_wp2_with fail
                go_round
                case rel => exact ⟨j + 1, by omega, by go_num⟩
                case measure => simp [intOf]; omega
              · have q3 : ¬ (j : Int) < (la6.length : Int) := by omega
                have R : BothRel w1.heap.size w1 l p q0 (.slice A6 la6.length cp6) (.int .i64 ((k : Int) + 1)) w6 := ⟨k + 1, va', by omega, by go_num, by rw [HTA.out]; exact HBe6.out, HB6.out⟩
                have HR := Lib.hid R
                clear R
                go_wp2_with fail
                go_roundw
                case rel => first | exact HR.out | ((repeat apply Exists.intro); exact ⟨HR.out, rfl⟩)
                case measure => simp [intOf]; omega
    · have hkr : k = l.length := by omega
      have q1 : ¬ (k : Int) < (l.length : Int) := by omega
      subst hkr
      rw [List.take_length] at hbe
      have hlal := newL_le l []
      simp only [List.length_nil] at hlal
      generalize newL [] l = la at *
      have hlal2 : la.length ≤ 150 := by omega
      obtain ⟨Ah, ch, rfl, k1, k2⟩ := hbe.h.shape
      have HBe := Lib.hid hbe
      have HB := Lib.hid (Below.lift HB1.out hb)
      clear hbe hb hlal HT1 HS1
      go_wp2_with fail
      refine (sorted_any _ _ p q0 va la HBe.out.t).mono ?_
      rintro e w7 ⟨v7, rfl, ho7, hb7⟩
      obtain ⟨A7, cap7, rfl, c1, c2⟩ := ho7.shape
      rw [srt_len] at *
      have HO7 := Lib.hid (ho7.sl nc_len)
      have HBe7 := Lib.hid (HBe.out.below_ hb7)
      have HB7 := Lib.hid (Below.lift HB.out hb7)
      clear ho7 hb7 HBe HB
      have HLn := Lib.hid (len_any w7 _ p q0 va la HBe7.out.t)
      have hn1 : ((la.length : Int) != (la.length : Int)) = false := bne_self_eq_false _
      go_wp2_with fail
      refine HLn.out.mono ?_
      rintro e w' ⟨rfl, rfl⟩
      go_wp2_with fail
      refine (all_any _ _ p q0 va la HBe7.out.t).mono ?_
      rintro e w8 ⟨v8, rfl, ho8, hb8⟩
      have HSame := Lib.hid (sameStr_self v8 _ la w8 (ho8.sl nc_len) ((HBe7.out.below_ hb8).h.sl nc_len) (by omega))
      have HO8 := Lib.hid (HO7.out.below_ hb8)
      have HBe8 := Lib.hid (HBe7.out.below_ hb8)
      have HB8 := Lib.hid (Below.lift HB7.out hb8)
      clear ho8 hb8 HO7 HBe7 HB7
      go_wp2_with fail
      refine HSame.out.mono ?_
      rintro e w' ⟨rfl, n8, rfl⟩
      clear HSame
      go_wp2_with fail
      go_loopw [17] (fun s wx => ∃ j nd : Nat, j ≤ la.length ∧ s = .int .i64 (j : Int) ∧ wx = w8.drewN nd) (fun s _ => la.length - (intOf s).toNat)
      case atStart => exact ⟨0, n8, Nat.zero_le _, rfl, rfl⟩
      case round =>
        obtain ⟨j, nd, hj, rfl, rfl⟩ := hrel
        by_cases hlt2 : j < la.length
        · have hls := srt_len la
          have hlt3 : j < (srt la).length := by omega
          obtain ⟨bh, oh, rfl⟩ := HO8.out.addr hlt3
          have hch := HO8.out.name hlt3
          have hmem : (srt la)[j] ∈ la := (srt_mem la _).1 (List.getElem_mem hlt3)
          have hln := Nm.name_len (HBe8.out.t.ok.nm _ hmem)
          have hnu := num_any (w8.drewN nd) _ p q0 va la (srt la)[j] (HBe8.out.t.drewN nd) (by unfold maxLen; omega)
          rw [List.contains_iff_mem.2 hmem] at hnu
          have HNu := Lib.hid hnu
          have q3 : (0 : Int) ≤ (j : Int) := by omega
          have q4 : (j : Int) < (la.length : Int) := by omega
          clear hnu hmem hln
          by_cases h0 : j = 0
          · generalize (srt la)[j] = y1 at *
            generalize num la y1 = n1 at *
            have q5 : decide ((0 : Int) < (j : Int)) = false := decide_eq_false (by omega)
            have q6 : decide (0 < j) = false := decide_eq_false (by omega)
            clear hls hlt3 h0
            go_wp2_with fail
            refine HNu.out.mono ?_
            rintro e w' ⟨rfl, rfl⟩
            go_wp2_with fail
            go_quiet (fail)
            go_wp2_with fail
            go_roundw
            case rel => exact ⟨j + 1, _, by omega, by go_num, by first | rfl | exact World.drewN_drewN _ _ _⟩
            case measure => simp [intOf]; omega
          · obtain ⟨i, hi⟩ : ∃ i, j = i + 1 := ⟨j - 1, by omega⟩
            have hlt4 : i < (srt la).length := by omega
            have hci := HO8.out.name hlt4
            have hless : Op.bytesLess (ba (srt la)[i]).toList (ba (srt la)[j]).toList = true := by subst hi; exact srt_less HBe8.out.t.ok.nd hlt3
            generalize (srt la)[j] = y1 at *
            generalize (srt la)[i] = y0 at *
            generalize num la y1 = n1 at *
            have q5 : decide ((0 : Int) < (j : Int)) = true := decide_eq_true (by omega)
            have q5b : decide (0 < j) = true := decide_eq_true (by omega)
            have q6 : (0 : Int) ≤ (i : Int) := by omega
            have q7 : (i : Int) < (la.length : Int) := by omega
            have q8 : IntKind.i64.wrap ((j : Int) - 1) = (i : Int) := by rw [IntWalk.i64_in _ (by omega)]; omega
            clear hi
            clear hls hlt3 hlt4 h0
            go_wp2_with fail
            refine HNu.out.mono ?_
            rintro e w' ⟨rfl, rfl⟩
            go_wp2_with fail
            go_quiet (fail)
            go_wp2_with fail
            go_roundw
            case rel => exact ⟨j + 1, _, by omega, by go_num, by first | rfl | exact World.drewN_drewN _ _ _⟩
            case measure => simp [intOf]; omega
        · have q3 : ¬ (j : Int) < (la.length : Int) := by omega
          go_wp2_with fail
          go_ret
          exact ⟨rfl, below_drewN HB8.out nd⟩
theorem both_all (vl : Value) (l : Nms) (w : World) {P : Nat → Prop} (hs : Sl nc 1 w vl l P) (hx : ∀ x ∈ l, x.length ≤ maxLen) (hT : Tabs w) :
    Calls Tryd.prog 5 #[vl] w fun e w' => e = .returned (.bool true) ∧ Below w.heap.size w w' := by
  by_cases h : l.length ≤ 150
  · exact both_any vl l w hs hx hT h
  · obtain ⟨A, cap, e, _, _⟩ := hs.shape
    exact both_long vl l.length cap A w hT e (by omega)
end Go.Proofs.YtkagfddkfpeddaaDoor
