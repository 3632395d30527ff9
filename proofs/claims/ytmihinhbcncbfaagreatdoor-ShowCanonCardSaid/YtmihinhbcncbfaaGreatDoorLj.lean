/- The walk of show.Lines. -/
import Derived.Test.YtmihinhbcncbfaaGreatDoorLi
namespace Go.Proofs.YtmihinhbcncbfaaGreatDoor
open Go.RowKit

set_option maxHeartbeats 2000000 in
set_option maxRecDepth 100000 in
theorem lines_bad (w : World) (x : SheetM) {P : Nat → Prop} (hg : x.Good w P) (hf : x.Few) (hl : longD x.d = false) (hT : Tabs w) (hm : ∀ s ∈ namesD x.d, s.length ≤ maxLen) (hc : checkD x.d ≠ 0) :
    Calls Tryz.prog 12 #[x.v] w fun e w' => e = .returned (.tuple #[.slice none 0 0, .int .i64 (checkD x.d)]) ∧ Below w.heap.size w w' := by
  obtain ⟨w1, hw1⟩ : ∃ w1, w.alloc (.cells x.c.toArray 29) = w1 := ⟨_, rfl⟩
  have hS1 : SheetAt w.heap.size x w1 := by rw [← hw1]; exact SheetAt.of (heap_alloc_new _ _)
  have hb1 : Below w.heap.size w w1 := by rw [← hw1]; exact (Below.refl _ _).alloc (Nat.le_refl _) _
  have HB1 := Lib.hid hb1
  have HCH := check_any w1 x (hg.below_ hb1) hf hl (hT.below hb1) hm
  obtain ⟨As, cs, es, _, _⟩ := hg.stops.shape
  obtain ⟨Ap, cp, ep, _, _⟩ := hg.paths.shape
  obtain ⟨Ad, cd, ed, _, _⟩ := hg.doors.shape
  obtain ⟨Ar, cr, er, _, _⟩ := hg.routes.shape
  obtain ⟨At, ct, et, _, _⟩ := hg.trips.shape
  obtain ⟨Ah, ch, eh, _, _⟩ := hg.hazs.shape
  obtain ⟨c0, c1, c2, c3, c4, c5, c6⟩ := hS1
  unfold SheetM.c at hw1
  unfold SheetM.v at HCH
  unfold SheetM.v
  rw [es, ep, ed, er, et, eh] at hw1 HCH
  rw [es, ep, ed, er, et, eh]
  rw [es] at c1
  rw [ep] at c2
  rw [ed] at c3
  rw [er] at c4
  rw [et] at c5
  rw [eh] at c6
  have HCC := Lib.hid HCH
  generalize checkD x.d = q at *
  have hq : (q == 0) = false := beq_eq_false_iff_ne.2 hc
  have hq2 : (q != 0) = true := by rw [bne, hq]; rfl
  clear HCH es ep ed er et eh hb1 hf hg hT hm hl
  go_enter Tryz.func12, Tryz.ntmps12
  go_wp2_with fail
  refine HCC.out.mono ?_
  rintro e w2 ⟨rfl, hb2⟩
  have HB2 := Lib.hid (HB1.out.trans (hb2.mono HB1.out.size))
  clear hb2
  go_wp2_with fail
  go_ret2
  exact ⟨rfl, HB2.out⟩
theorem ix0 (w : World) (f0 f1 f2 f3 f4 f5 f6 : Value) : (Instr.index 78 (.agg #[f0, f1, f2, f3, f4, f5, f6]) (.int .i64 0)).run Tryz.prog w = .ok f0 w := by kernel_rfl
theorem ix1 (w : World) (f0 f1 f2 f3 f4 f5 f6 : Value) : (Instr.index 78 (.agg #[f0, f1, f2, f3, f4, f5, f6]) (.int .i64 1)).run Tryz.prog w = .ok f1 w := by kernel_rfl
theorem ix2 (w : World) (f0 f1 f2 f3 f4 f5 f6 : Value) : (Instr.index 78 (.agg #[f0, f1, f2, f3, f4, f5, f6]) (.int .i64 2)).run Tryz.prog w = .ok f2 w := by kernel_rfl
theorem ix3 (w : World) (f0 f1 f2 f3 f4 f5 f6 : Value) : (Instr.index 78 (.agg #[f0, f1, f2, f3, f4, f5, f6]) (.int .i64 3)).run Tryz.prog w = .ok f3 w := by kernel_rfl
theorem ix4 (w : World) (f0 f1 f2 f3 f4 f5 f6 : Value) : (Instr.index 78 (.agg #[f0, f1, f2, f3, f4, f5, f6]) (.int .i64 4)).run Tryz.prog w = .ok f4 w := by kernel_rfl
theorem ix5 (w : World) (f0 f1 f2 f3 f4 f5 f6 : Value) : (Instr.index 78 (.agg #[f0, f1, f2, f3, f4, f5, f6]) (.int .i64 5)).run Tryz.prog w = .ok f5 w := by kernel_rfl
theorem ix6 (w : World) (f0 f1 f2 f3 f4 f5 f6 : Value) : (Instr.index 78 (.agg #[f0, f1, f2, f3, f4, f5, f6]) (.int .i64 6)).run Tryz.prog w = .ok f6 w := by kernel_rfl
set_option maxHeartbeats 4000000 in
set_option maxRecDepth 100000 in
theorem lines_ok (w : World) (x : SheetM) {P : Nat → Prop} (hg : x.Good w P) (hf : x.Few) (hl : longD x.d = false) (hT : Tabs w) (hP : Pow w) (hm : ∀ s ∈ namesD x.d, s.length ≤ maxLen) (hc : checkD x.d = 0) :
    Calls Tryz.prog 12 #[x.v] w fun e w' => ∃ v, e = .returned (.tuple #[v, .int .i64 0]) ∧ Ow nc 1 w' w.heap.size 9 v (linesD x.d) ∧ Below w.heap.size w w' := by
  have hfine := fine_of x hc
  obtain ⟨i0, hi0, hz0, hz1, hz2⟩ := info_parts info_string
  have HGR : ∀ (w3 : World), x.Good w3 P → Pow w3 → ∀ k f, (k = 0 ∧ f = 38 ∨ k = 1 ∧ f = 39 ∨ k = 2 ∧ f = 40 ∨ k = 3 ∧ f = 41 ∨ k = 4 ∧ f = 42 ∨ k = 5 ∧ f = 43 ∨ k = 6 ∧ f = 44) → Calls Tryz.prog f #[x.v] w3 (Made nc 1 9 (grp x k) w3) := by
    intro w3 h3 p3 k f h
    rcases h with ⟨rfl, rfl⟩ | ⟨rfl, rfl⟩ | ⟨rfl, rfl⟩ | ⟨rfl, rfl⟩ | ⟨rfl, rfl⟩ | ⟨rfl, rfl⟩ | ⟨rfl, rfl⟩
    · exact g_horizon w3 x h3 hfine p3
    · exact g_stops w3 x h3 hfine p3 (Nat.le_trans hf.stops (by decide))
    · exact g_paths w3 x h3 hfine p3 (Nat.le_trans hf.paths (by decide))
    · exact g_doors w3 x h3 hfine p3 (Nat.le_trans hf.doors (by decide))
    · exact g_routes w3 x h3 hfine p3 (Nat.le_trans hf.routes (by decide))
    · exact g_trips w3 x h3 hfine p3 (Nat.le_trans hf.trips (by decide))
    · exact g_hazards w3 x h3 hfine p3 (Nat.le_trans hf.hazs (by decide))
  have HGL := Lib.hid (grp_len x hf)
  obtain ⟨w1, hw1⟩ : ∃ w1, w.alloc (.cells x.c.toArray 29) = w1 := ⟨_, rfl⟩
  have hS1 : SheetAt w.heap.size x w1 := by rw [← hw1]; exact SheetAt.of (heap_alloc_new _ _)
  have hb1 : Below w.heap.size w w1 := by rw [← hw1]; exact (Below.refl _ _).alloc (Nat.le_refl _) _
  have HB1 := Lib.hid hb1
  have HCH := check_any w1 x (hg.below_ hb1) hf hl (hT.below hb1) hm
  have HG1 := Lib.hid (hg.below_ hb1)
  have HP1 := Lib.hid (hP.below hb1)
  have HS1 := Lib.hid hS1
  have HLT := Lib.hid (show w.heap.size < w1.heap.size by rw [← hw1]; simp)
  obtain ⟨As, cs, es, _, _⟩ := hg.stops.shape
  obtain ⟨Ap, cp, ep, _, _⟩ := hg.paths.shape
  obtain ⟨Ad, cd, ed, _, _⟩ := hg.doors.shape
  obtain ⟨Ar, cr, er, _, _⟩ := hg.routes.shape
  obtain ⟨At, ct, et, _, _⟩ := hg.trips.shape
  obtain ⟨Ah, ch, eh, _, _⟩ := hg.hazs.shape
  obtain ⟨c0, c1, c2, c3, c4, c5, c6⟩ := hS1
  unfold SheetM.c at hw1
  unfold SheetM.v at HCH
  unfold SheetM.v
  rw [es, ep, ed, er, et, eh] at hw1 HCH
  rw [es, ep, ed, er, et, eh]
  rw [es] at c1
  rw [ep] at c2
  rw [ed] at c3
  rw [er] at c4
  rw [et] at c5
  rw [eh] at c6
  rw [hc] at HCH
  have HCC := Lib.hid HCH
  have cells : ∀ wx, SheetAt w.heap.size x wx → wx.cell? ⟨w.heap.size, 0, none⟩ = some (.int .i64 x.hor) ∧ wx.cell? ⟨w.heap.size, 1, none⟩ = some (.slice As x.stops.length cs) ∧ wx.cell? ⟨w.heap.size, 2, none⟩ = some (.slice Ap x.paths.length cp) ∧ wx.cell? ⟨w.heap.size, 3, none⟩ = some (.slice Ad x.doors.length cd) ∧ wx.cell? ⟨w.heap.size, 4, none⟩ = some (.slice Ar x.routes.length cr) ∧ wx.cell? ⟨w.heap.size, 5, none⟩ = some (.slice At x.trips.length ct) ∧ wx.cell? ⟨w.heap.size, 6, none⟩ = some (.slice Ah x.hazs.length ch) := by
    rintro wx ⟨s0, s1, s2, s3, s4, s5, s6⟩
    rw [es] at s1
    rw [ep] at s2
    rw [ed] at s3
    rw [er] at s4
    rw [et] at s5
    rw [eh] at s6
    exact ⟨s0, s1, s2, s3, s4, s5, s6⟩
  have CELLS := Lib.hid cells
  unfold SheetM.v at HGR
  rw [es, ep, ed, er, et, eh] at HGR
  have HGRR := Lib.hid HGR
  have HE := Lib.hid (grp_all x)
  clear HCH HGR es ep ed er et eh hb1 hf hg hT hm hl hc hP hfine cells
  go_enter Tryz.func12, Tryz.ntmps12
  go_wp2_with fail
  refine HCC.out.mono ?_
  rintro e w2 ⟨rfl, hb2⟩
  have HB2 := Lib.hid hb2
  have HG2 := Lib.hid (HG1.out.below_ hb2)
  have HP2 := Lib.hid (HP1.out.below hb2)
  clear hb2 hw1 c0 c1 c2 c3 c4 c5 c6
  obtain ⟨c0, c1, c2, c3, c4, c5, c6⟩ := CELLS.out w2 (HS1.out.below HB2.out HLT.out)
  obtain ⟨w3, hw3⟩ : ∃ w3, w2.alloc (.cells #[.int .i64 x.hor, .slice As x.stops.length cs, .slice Ap x.paths.length cp, .slice Ad x.doors.length cd, .slice Ar x.routes.length cr, .slice At x.trips.length ct, .slice Ah x.hazs.length ch] 76) = w3 := ⟨_, rfl⟩
  have hb3 : Below w2.heap.size w2 w3 := by rw [← hw3]; exact (Below.refl _ _).alloc (Nat.le_refl _) _
  have d0 : w3.cell? ⟨w2.heap.size, 0, none⟩ = some (.int .i64 x.hor) := by rw [← hw3]; exact Lib.cell_of_heap (heap_alloc_new _ _) 0
  have d1 : w3.cell? ⟨w2.heap.size, 1, none⟩ = some (.slice As x.stops.length cs) := by rw [← hw3]; exact Lib.cell_of_heap (heap_alloc_new _ _) 1
  have d2 : w3.cell? ⟨w2.heap.size, 2, none⟩ = some (.slice Ap x.paths.length cp) := by rw [← hw3]; exact Lib.cell_of_heap (heap_alloc_new _ _) 2
  have d3 : w3.cell? ⟨w2.heap.size, 3, none⟩ = some (.slice Ad x.doors.length cd) := by rw [← hw3]; exact Lib.cell_of_heap (heap_alloc_new _ _) 3
  have d4 : w3.cell? ⟨w2.heap.size, 4, none⟩ = some (.slice Ar x.routes.length cr) := by rw [← hw3]; exact Lib.cell_of_heap (heap_alloc_new _ _) 4
  have d5 : w3.cell? ⟨w2.heap.size, 5, none⟩ = some (.slice At x.trips.length ct) := by rw [← hw3]; exact Lib.cell_of_heap (heap_alloc_new _ _) 5
  have d6 : w3.cell? ⟨w2.heap.size, 6, none⟩ = some (.slice Ah x.hazs.length ch) := by rw [← hw3]; exact Lib.cell_of_heap (heap_alloc_new _ _) 6
  have HB3 := Lib.hid (HB2.out.trans (hb3.mono HB2.out.size))
  have HG3 := Lib.hid (HG2.out.below_ hb3)
  have HP3 := Lib.hid (HP2.out.below hb3)
  clear hb3
  go_wp2_with fail
  clear hw3 d0 d1 d2 d3 d4 d5 d6 c0 c1 c2 c3 c4 c5 c6
  go_loopg [31, 6] 7 (fun gg s v wr => ∃ k : Nat, k ≤ 7 ∧ 7 - k ≤ gg ∧ s = .int .i64 k ∧ Ow nc 1 wr w1.heap.size 9 v ((List.range k).flatMap (grp x)) ∧ Below w1.heap.size w1 wr)
  case atStart => exact ⟨0, Nat.zero_le _, by omega, rfl, Ow.nil_, HB3.out⟩
  case round =>
    obtain ⟨k, hk, hgg, rfl, ho, hb⟩ := hrel
    have HO := Lib.hid ho
    have HB := Lib.hid hb
    have hG := HG1.out.below_ (hb)
    have hP := HP1.out.below hb
    have hlen := flat_le (grp x) 1024 (List.range k) (fun j _ => HGL.out j) 7 (by rw [List.length_range]; exact hk)
    have E : Hid ((List.range (k + 1)).flatMap (grp x) = (List.range k).flatMap (grp x) ++ grp x k) := Lib.hid (by rw [List.range_succ, List.flatMap_append]; simp)
    have HGK := HGL.out k
    have HC0 := HGRR.out wr hG hP k
    have HSZ := Lib.hid (show w1.heap.size ≤ wr.heap.size from hb.size)
    have HCH0 := Lib.hid HC0
    clear ho hb hG hP HC0
    by_cases hlt : k < 7
    · have h7 : k = 0 ∨ k = 1 ∨ k = 2 ∨ k = 3 ∨ k = 4 ∨ k = 5 ∨ k = 6 := by omega
      rcases h7 with rfl | rfl | rfl | rfl | rfl | rfl | rfl
      · have hix := ix0
        have HCH := Lib.hid (HCH0.out 38 (by simp))
        clear HCH0
        go_wp2_with fail
        refine HCH.out.mono ?_
        rintro e w5 ⟨v5, rfl, ho5, hb5⟩
        have HO5 := Lib.hid (Ow.below HO.out hb5 fun q hq => (HO.out.lt hq).2)
        have HB5 := Lib.hid (HB.out.trans (hb5.mono HSZ.out))
        have HS5 := Lib.hid (Nat.le_trans HSZ.out hb5.size)
        have HX5 := Lib.hid (ho5.sl nc_len)
        clear ho5 hb5
        go_wp2_with (at_builtin; refine wpList_append_sl _ rfl _ _ _ rfl w1.heap.size 9 i0 _ 16 Tryz.underlying22 hi0 hz0 hz1 hz2 rfl (by omega) nc_len nc_one _ _ _ _ rfl rfl HO5.out HX5.out (by simp only [maxLen]; omega) (by omega) HS5.out ?_; intro v6 w6 hown6 hg6 hmv6)
        have HO6 := Lib.hid hown6
        have HB6 := Lib.hid (HB5.out.grown hg6 HS5.out fun q hq => (HO5.out.lt hq).1)
        clear hown6 hg6 hmv6
        go_roundg 6
        case measure => omega
        case rel => exact ⟨1, by omega, by omega, by go_num, by rw [E.out]; exact HO6.out, HB6.out⟩
      · have hix := ix1
        have HCH := Lib.hid (HCH0.out 39 (by simp))
        clear HCH0
        go_wp2_with fail
        refine HCH.out.mono ?_
        rintro e w5 ⟨v5, rfl, ho5, hb5⟩
        have HO5 := Lib.hid (Ow.below HO.out hb5 fun q hq => (HO.out.lt hq).2)
        have HB5 := Lib.hid (HB.out.trans (hb5.mono HSZ.out))
        have HS5 := Lib.hid (Nat.le_trans HSZ.out hb5.size)
        have HX5 := Lib.hid (ho5.sl nc_len)
        clear ho5 hb5
        go_wp2_with (at_builtin; refine wpList_append_sl _ rfl _ _ _ rfl w1.heap.size 9 i0 _ 16 Tryz.underlying22 hi0 hz0 hz1 hz2 rfl (by omega) nc_len nc_one _ _ _ _ rfl rfl HO5.out HX5.out (by simp only [maxLen]; omega) (by omega) HS5.out ?_; intro v6 w6 hown6 hg6 hmv6)
        have HO6 := Lib.hid hown6
        have HB6 := Lib.hid (HB5.out.grown hg6 HS5.out fun q hq => (HO5.out.lt hq).1)
        clear hown6 hg6 hmv6
        go_roundg 5
        case measure => omega
        case rel => exact ⟨2, by omega, by omega, by go_num, by rw [E.out]; exact HO6.out, HB6.out⟩
      · have hix := ix2
        have HCH := Lib.hid (HCH0.out 40 (by simp))
        clear HCH0
        go_wp2_with fail
        refine HCH.out.mono ?_
        rintro e w5 ⟨v5, rfl, ho5, hb5⟩
        have HO5 := Lib.hid (Ow.below HO.out hb5 fun q hq => (HO.out.lt hq).2)
        have HB5 := Lib.hid (HB.out.trans (hb5.mono HSZ.out))
        have HS5 := Lib.hid (Nat.le_trans HSZ.out hb5.size)
        have HX5 := Lib.hid (ho5.sl nc_len)
        clear ho5 hb5
        go_wp2_with (at_builtin; refine wpList_append_sl _ rfl _ _ _ rfl w1.heap.size 9 i0 _ 16 Tryz.underlying22 hi0 hz0 hz1 hz2 rfl (by omega) nc_len nc_one _ _ _ _ rfl rfl HO5.out HX5.out (by simp only [maxLen]; omega) (by omega) HS5.out ?_; intro v6 w6 hown6 hg6 hmv6)
        have HO6 := Lib.hid hown6
        have HB6 := Lib.hid (HB5.out.grown hg6 HS5.out fun q hq => (HO5.out.lt hq).1)
        clear hown6 hg6 hmv6
        go_roundg 4
        case measure => omega
        case rel => exact ⟨3, by omega, by omega, by go_num, by rw [E.out]; exact HO6.out, HB6.out⟩
      · have hix := ix3
        have HCH := Lib.hid (HCH0.out 41 (by simp))
        clear HCH0
        go_wp2_with fail
        refine HCH.out.mono ?_
        rintro e w5 ⟨v5, rfl, ho5, hb5⟩
        have HO5 := Lib.hid (Ow.below HO.out hb5 fun q hq => (HO.out.lt hq).2)
        have HB5 := Lib.hid (HB.out.trans (hb5.mono HSZ.out))
        have HS5 := Lib.hid (Nat.le_trans HSZ.out hb5.size)
        have HX5 := Lib.hid (ho5.sl nc_len)
        clear ho5 hb5
        go_wp2_with (at_builtin; refine wpList_append_sl _ rfl _ _ _ rfl w1.heap.size 9 i0 _ 16 Tryz.underlying22 hi0 hz0 hz1 hz2 rfl (by omega) nc_len nc_one _ _ _ _ rfl rfl HO5.out HX5.out (by simp only [maxLen]; omega) (by omega) HS5.out ?_; intro v6 w6 hown6 hg6 hmv6)
        have HO6 := Lib.hid hown6
        have HB6 := Lib.hid (HB5.out.grown hg6 HS5.out fun q hq => (HO5.out.lt hq).1)
        clear hown6 hg6 hmv6
        go_roundg 3
        case measure => omega
        case rel => exact ⟨4, by omega, by omega, by go_num, by rw [E.out]; exact HO6.out, HB6.out⟩
      · have hix := ix4
        have HCH := Lib.hid (HCH0.out 42 (by simp))
        clear HCH0
        go_wp2_with fail
        refine HCH.out.mono ?_
        rintro e w5 ⟨v5, rfl, ho5, hb5⟩
        have HO5 := Lib.hid (Ow.below HO.out hb5 fun q hq => (HO.out.lt hq).2)
        have HB5 := Lib.hid (HB.out.trans (hb5.mono HSZ.out))
        have HS5 := Lib.hid (Nat.le_trans HSZ.out hb5.size)
        have HX5 := Lib.hid (ho5.sl nc_len)
        clear ho5 hb5
        go_wp2_with (at_builtin; refine wpList_append_sl _ rfl _ _ _ rfl w1.heap.size 9 i0 _ 16 Tryz.underlying22 hi0 hz0 hz1 hz2 rfl (by omega) nc_len nc_one _ _ _ _ rfl rfl HO5.out HX5.out (by simp only [maxLen]; omega) (by omega) HS5.out ?_; intro v6 w6 hown6 hg6 hmv6)
        have HO6 := Lib.hid hown6
        have HB6 := Lib.hid (HB5.out.grown hg6 HS5.out fun q hq => (HO5.out.lt hq).1)
        clear hown6 hg6 hmv6
        go_roundg 2
        case measure => omega
        case rel => exact ⟨5, by omega, by omega, by go_num, by rw [E.out]; exact HO6.out, HB6.out⟩
      · have hix := ix5
        have HCH := Lib.hid (HCH0.out 43 (by simp))
        clear HCH0
        go_wp2_with fail
        refine HCH.out.mono ?_
        rintro e w5 ⟨v5, rfl, ho5, hb5⟩
        have HO5 := Lib.hid (Ow.below HO.out hb5 fun q hq => (HO.out.lt hq).2)
        have HB5 := Lib.hid (HB.out.trans (hb5.mono HSZ.out))
        have HS5 := Lib.hid (Nat.le_trans HSZ.out hb5.size)
        have HX5 := Lib.hid (ho5.sl nc_len)
        clear ho5 hb5
        go_wp2_with (at_builtin; refine wpList_append_sl _ rfl _ _ _ rfl w1.heap.size 9 i0 _ 16 Tryz.underlying22 hi0 hz0 hz1 hz2 rfl (by omega) nc_len nc_one _ _ _ _ rfl rfl HO5.out HX5.out (by simp only [maxLen]; omega) (by omega) HS5.out ?_; intro v6 w6 hown6 hg6 hmv6)
        have HO6 := Lib.hid hown6
        have HB6 := Lib.hid (HB5.out.grown hg6 HS5.out fun q hq => (HO5.out.lt hq).1)
        clear hown6 hg6 hmv6
        go_roundg 1
        case measure => omega
        case rel => exact ⟨6, by omega, by omega, by go_num, by rw [E.out]; exact HO6.out, HB6.out⟩
      · have hix := ix6
        have HCH := Lib.hid (HCH0.out 44 (by simp))
        clear HCH0
        go_wp2_with fail
        refine HCH.out.mono ?_
        rintro e w5 ⟨v5, rfl, ho5, hb5⟩
        have HO5 := Lib.hid (Ow.below HO.out hb5 fun q hq => (HO.out.lt hq).2)
        have HB5 := Lib.hid (HB.out.trans (hb5.mono HSZ.out))
        have HS5 := Lib.hid (Nat.le_trans HSZ.out hb5.size)
        have HX5 := Lib.hid (ho5.sl nc_len)
        clear ho5 hb5
        go_wp2_with (at_builtin; refine wpList_append_sl _ rfl _ _ _ rfl w1.heap.size 9 i0 _ 16 Tryz.underlying22 hi0 hz0 hz1 hz2 rfl (by omega) nc_len nc_one _ _ _ _ rfl rfl HO5.out HX5.out (by simp only [maxLen]; omega) (by omega) HS5.out ?_; intro v6 w6 hown6 hg6 hmv6)
        have HO6 := Lib.hid hown6
        have HB6 := Lib.hid (HB5.out.grown hg6 HS5.out fun q hq => (HO5.out.lt hq).1)
        clear hown6 hg6 hmv6
        go_roundg 0
        case measure => omega
        case rel => exact ⟨7, by omega, by omega, by go_num, by rw [E.out]; exact HO6.out, HB6.out⟩
    · have hke : k = 7 := by omega
      subst hke
      rw [HE.out] at HO
      go_wp2_with fail
      go_ret2
      exact ⟨_, rfl, HO.out.lower HB1.out.size, HB1.out.trans (HB.out.mono HB1.out.size)⟩
end Go.Proofs.YtmihinhbcncbfaaGreatDoor
