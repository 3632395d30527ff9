/- The walk of timetableref05.names. Printed by wip/bin/genzn.py. -/
import Derived.Test.YteonefgbdphmiaaGreatDoorSn
namespace Go.Proofs.YteonefgbdphmiaaGreatDoor
open Go.RowKit
set_option maxHeartbeats 8000000 in
set_option maxRecDepth 100000 in
theorem znames_any (w : World) (x : SheetM) {P : Nat → Prop} (hg : x.Good w P) (hf : x.Few) :
    Calls Tryz.prog 26 #[x.v] w (Made nc 1 9 (namesD x.d) w) := by
  obtain ⟨i0, hi0, hz0, hz1, hz2⟩ := info_parts info_string
  obtain ⟨w1, hw1⟩ : ∃ w1, w.alloc (.cells x.c.toArray 29) = w1 := ⟨_, rfl⟩
  have hS1 : SheetAt w.heap.size x w1 := by rw [← hw1]; exact SheetAt.of (heap_alloc_new _ _)
  have hb1 : Below w.heap.size w w1 := by rw [← hw1]; exact (Below.refl _ _).alloc (Nat.le_refl _) _
  have hlt : w.heap.size < w1.heap.size := by rw [← hw1]; simp
  have hz1' : ∀ o, (w1.alloc o).heap.size = w1.heap.size + 1 := fun o => by simp
  have HB1 := Lib.hid hb1
  have HG1 := Lib.hid (hg.below_ hb1)
  have HS1 := Lib.hid hS1
  have HLT := Lib.hid hlt
  have HF := Lib.hid hf
  obtain ⟨As, cs, es, _, _⟩ := hg.stops.shape
  obtain ⟨Ap, cp, ep, _, _⟩ := hg.paths.shape
  obtain ⟨Ad, cd, ed, _, _⟩ := hg.doors.shape
  obtain ⟨Ar, cr, er, _, _⟩ := hg.routes.shape
  obtain ⟨At, ct, et, _, _⟩ := hg.trips.shape
  obtain ⟨Ah, ch, eh, _, _⟩ := hg.hazs.shape
  have n0 := hf.stops
  have n1 := hf.paths
  have n2 := hf.doors
  have n3 := hf.routes
  have n4 := hf.trips
  have n5 := hf.hazs
  have cells : ∀ wx, SheetAt w.heap.size x wx → wx.cell? ⟨w.heap.size, 0, none⟩ = some (.int .i64 x.hor) ∧ wx.cell? ⟨w.heap.size, 1, none⟩ = some (.slice As x.stops.length cs) ∧ wx.cell? ⟨w.heap.size, 2, none⟩ = some (.slice Ap x.paths.length cp) ∧ wx.cell? ⟨w.heap.size, 3, none⟩ = some (.slice Ad x.doors.length cd) ∧ wx.cell? ⟨w.heap.size, 4, none⟩ = some (.slice Ar x.routes.length cr) ∧ wx.cell? ⟨w.heap.size, 5, none⟩ = some (.slice At x.trips.length ct) ∧ wx.cell? ⟨w.heap.size, 6, none⟩ = some (.slice Ah x.hazs.length ch) := by
    rintro wx ⟨s0, s1, s2, s3, s4, s5, s6⟩
    rw [es] at s1
    rw [ep] at s2
    rw [ed] at s3
    rw [er] at s4
    rw [et] at s5
    rw [eh] at s6
    exact ⟨s0, s1, s2, s3, s4, s5, s6⟩
  have CELLS := Lib.hid cells
  have HEP := Lib.hid ep
  have HED := Lib.hid ed
  have HER := Lib.hid er
  have HET := Lib.hid et
  have HEH := Lib.hid eh
  have hst1 := (hg.below_ hb1).stops
  rw [es] at hst1
  have HST := Lib.hid hst1
  unfold SheetM.v
  unfold SheetM.c at hw1
  rw [es, ep, ed, er, et, eh] at hw1
  rw [es, ep, ed, er, et, eh]
  obtain ⟨c0, c1, c2, c3, c4, c5, c6⟩ := cells w1 hS1
  clear es ep ed er et eh hS1 hb1 hf hg cells hst1
  go_enter Tryz.func26, Tryz.ntmps26
  go_upto_region 2 with (at_builtin; refine wpList_append_sl _ rfl _ _ _ rfl w1.heap.size 9 i0 _ 16 Tryz.underlying22 hi0 hz0 hz1 hz2 rfl (by omega) nc_len nc_one (.slice (some ⟨w1.heap.size, 0, none⟩) 0 0) _ [] x.stops rfl rfl (Ow.empty (Nat.le_refl _)) (HST.out.alloc _) (by simp only [maxLen, List.length_nil]; omega) (by simp only [List.length_nil]; omega) (by simp) ?_; intro v0 wr hown0 hg0 hmv0)
  clear hw1
  have ho0 : Ow nc 1 wr w1.heap.size 9 v0 (nm0 x) := hown0
  have hB : Below w1.heap.size w1 wr := ((Below.refl _ _).alloc (Nat.le_refl _) _).grown hg0 (by rw [hz1']; omega) fun k hk => by
    have : w1.heap.size = k := by simpa [Value.ownBlock] using hk
    omega
  clear hlt hown0 hg0 hmv0 c0 c1 c2 c3 c4 c5 c6 hz1'
  have HO0 := Lib.hid ho0
  have HB0 := Lib.hid hB
  have nl := nm0_len x HF.out
  clear ho0 hB
  go_wp2_with fail
  go_loopg [4, 3] x.paths.length (fun gg s v wx => ∃ k : Nat, k ≤ x.paths.length ∧ x.paths.length - k ≤ gg ∧ s = .int .i64 k ∧ Ow nc 1 wx w1.heap.size 9 v (nm0 x ++ (x.paths.take k).flatMap (fun p => [p.name, p.a, p.b])) ∧ Below w1.heap.size w1 wx)
  case atStart => exact ⟨0, Nat.zero_le _, by omega, rfl, by rw [List.take_zero, List.flatMap_nil, List.append_nil]; exact HO0.out, HB0.out⟩
  case round =>
    clear HO0 HB0
    obtain ⟨k, hk, hgg, rfl, ho, hb⟩ := hrel
    obtain ⟨c0, c1, c2, c3, c4, c5, c6⟩ := CELLS.out wr (HS1.out.below hb HLT.out)
    by_cases hlt : k < x.paths.length
    · have hst := HG1.out.paths
      rw [HEP.out] at hst
      obtain ⟨b1, o1, p1, e1, _, _, hl1, _, hxx⟩ := hst.at_ hlt
      injection e1 with e1 e2 e3
      subst e1
      obtain ⟨y, hye⟩ : ∃ y, x.paths[k] = y := ⟨_, rfl⟩
      rw [hye] at hxx
      have hx0 : w1.cell? ⟨b1, o1 + k * 4, none⟩ = some (.string (ba y.name)) := by simpa using hxx 0 _ rfl
      have hx1 : w1.cell? ⟨b1, o1 + k * 4 + 1, none⟩ = some (.string (ba y.a)) := by simpa using hxx 1 _ rfl
      have hx2 : w1.cell? ⟨b1, o1 + k * 4 + 2, none⟩ = some (.string (ba y.b)) := by simpa using hxx 2 _ rfl
      have HO := Lib.hid ho
      have HB := Lib.hid hb
      have HSZ := Lib.hid (show w1.heap.size ≤ wr.heap.size from hb.size)
      have E := Lib.hid (show nm0 x ++ (x.paths.take (k + 1)).flatMap (fun p => [p.name, p.a, p.b]) = (nm0 x ++ (x.paths.take k).flatMap (fun p => [p.name, p.a, p.b])) ++ [y.name, y.a, y.b] by rw [take_flat_succ _ _ _ hlt, hye, List.append_assoc]; try rfl)
      have hlen : (nm0 x ++ (x.paths.take k).flatMap (fun p => [p.name, p.a, p.b])).length ≤ 4096 := by
        rw [List.length_append]
        have := flat_le (fun p => [p.name, p.a, p.b]) 3 (x.paths.take k) (fun _ _ => Nat.le_refl _) 1024 (by rw [List.length_take]; omega)
        omega
      have q1 : (0 : Int) ≤ (k : Int) := by omega
      have q2 : (k : Int) < (x.paths.length : Int) := by omega
      have hc1 := CELLS.out w1 HS1.out
      have HC := Lib.hid (fun (wy : World) (hy : Below w1.heap.size w1 wy) => (show wy.cell? ⟨w.heap.size, 2, none⟩ = some (.slice (some ⟨b1, o1, none⟩) x.paths.length cp) ∧ wy.cell? ⟨b1, o1 + k * 4, none⟩ = some (.string (ba y.name)) ∧ wy.cell? ⟨b1, o1 + k * 4 + 1, none⟩ = some (.string (ba y.a)) ∧ wy.cell? ⟨b1, o1 + k * 4 + 2, none⟩ = some (.string (ba y.b)) ∧ True from ⟨(hy.cell (p := ⟨w.heap.size, 2, none⟩) HLT.out).trans hc1.2.2.1, (hy.cell (p := ⟨b1, o1 + k * 4, none⟩) hl1).trans hx0, (hy.cell (p := ⟨b1, o1 + k * 4 + 1, none⟩) hl1).trans hx1, (hy.cell (p := ⟨b1, o1 + k * 4 + 2, none⟩) hl1).trans hx2, trivial⟩))
      clear hc1 ho hb e2 e3 hxx hst hye hx0 hx1 hx2
      go_upto_region 5 with fail
      have hSw : Below w1.heap.size w1 wr := HB.out
      refine wp_region_kinds (fun wy => Below w1.heap.size w1 wy) [] [19, 20] [2, 6, 8, 12, 14, 18] [0, 1, 3, 4, 5, 7, 9, 10, 11, 13, 15, 16, 17, 21] [0, 1, 2, 3, 4, 5, 6, 7, 8, 9, 10, 11, 12, 13, 14, 15, 16, 17, 18, 19, 20, 21] (by kernel_rfl) (by kernel_rfl) (fun w n h => below_drewN h n) ?_
      repeat (first | (refine wpKind_free (v := ?_) (by rfl) rfl (by rfl) ?_ ?_; rotate_left 1; (focus (intro wy; go_simp; rw [if_pos (show _ ∧ _ from ⟨by omega, by omega⟩)]; (try rw [Int.toNat_natCast]); (first | with_reducible rfl | (simp only [Nat.mul_one]; with_reducible rfl)); done)); try simp only [Act.put, List.setIfInBounds_toArray, List.set_cons_zero, List.set_cons_succ]) | (refine wpKind_free (v := ?_) (by rfl) rfl (by rfl) ?_ ?_; rotate_left 1; (focus (intro wy; go_simp; try with_reducible rfl; done)); try simp only [Act.put, List.setIfInBounds_toArray, List.set_cons_zero, List.set_cons_succ]) | (refine wpKind_held (v := ?_) (by rfl) rfl (by rfl) hSw ?_ ?_; rotate_left 1; (focus (intro wy hSy; obtain ⟨s0, s1, s2, s3, s4⟩ := HC.out wy hSy; go_simp; try with_reducible rfl; done)); try simp only [Act.put, List.setIfInBounds_toArray, List.set_cons_zero, List.set_cons_succ]))
      refine wpKind_serial (by rfl) rfl (fun n1 => ?_)
      go_wp2_with fail
      refine wpKind_serial (by rfl) rfl (fun n2 => ?_)
      go_wp2_with (at_builtin; refine wpList_append_sl _ rfl _ _ _ rfl w1.heap.size 9 i0 _ 16 Tryz.underlying22 hi0 hz0 hz1 hz2 rfl (by omega) nc_len nc_one _ _ (nm0 x ++ (x.paths.take k).flatMap (fun p => [p.name, p.a, p.b])) [y.name, y.a, y.b] rfl rfl (((HO.out.drewN n1).alloc _).drewN n2) ((Sl.newl [y.name, y.a, y.b] nc_len rfl rfl (by show 3 ≤ maxLen; decide) rfl).drewN n2) (by simp only [maxLen, List.length_cons, List.length_nil]; omega) (by simp only [List.length_cons, List.length_nil]; omega) (by have := HSZ.out; show w1.heap.size ≤ ((wr.drewN n1).alloc _).heap.size; rw [World.size_alloc]; show _ ≤ wr.heap.size + 1; omega) ?_; intro v1 w4 hown1 hg1 hmv1)
      have HB4 := Lib.hid (app_keep (w := (wr.drewN n1).drewN n2) (below_drewN (below_drewN HB.out n1) n2) HSZ.out ((HO.out.drewN n1).drewN n2) hg1)
      have HO4 := Lib.hid hown1
      clear hg1 hmv1 hown1 hSw
      repeat (first | (refine wpKind_free (v := ?_) (by rfl) rfl (by rfl) ?_ ?_; rotate_left 1; (focus (intro wy; go_simp; try with_reducible rfl; done)); try simp only [Act.put, List.setIfInBounds_toArray, List.set_cons_zero, List.set_cons_succ]) | (refine wpKind_free (v := ?_) (by rfl) rfl (by rfl) ?_ ?_; rotate_left 1; (focus (intro wy; go_simp; rw [if_pos (show _ ∧ _ from ⟨by omega, by omega⟩)]; (try rw [Int.toNat_natCast]); (first | with_reducible rfl | (simp only [Nat.mul_one]; with_reducible rfl)); done)); try simp only [Act.put, List.setIfInBounds_toArray, List.set_cons_zero, List.set_cons_succ]))
      refine wpKind_nil fun n5 => ?_
      go_wp2_with fail
      go_roundg (x.paths.length - (k + 1))
      case measure => omega
      case rel => exact ⟨k + 1, by omega, by omega, by go_num, by rw [E.out]; exact HO4.out.drewN n5, below_drewN HB4.out n5⟩
    · have hke : k = x.paths.length := by omega
      subst hke
      rw [List.take_length] at ho
      have ho0 : Ow nc 1 wr w1.heap.size 9 _ (nm1 x) := ho
      have hB := hb
      have q1 : ¬ (x.paths.length : Int) < (x.paths.length : Int) := Int.lt_irrefl _
      clear ho hb hlt hk hgg nl
      have HO1 := Lib.hid ho0
      have HB1 := Lib.hid hB
      have nl := nm1_len x HF.out
      clear ho0 hB
      go_wp2_with fail
      go_loopg [5, 3] x.doors.length (fun gg s v wx => ∃ k : Nat, k ≤ x.doors.length ∧ x.doors.length - k ≤ gg ∧ s = .int .i64 k ∧ Ow nc 1 wx w1.heap.size 9 v (nm1 x ++ (x.doors.take k).flatMap (fun p => [p.name, p.a, p.b])) ∧ Below w1.heap.size w1 wx)
      case atStart => exact ⟨0, Nat.zero_le _, by omega, rfl, by rw [List.take_zero, List.flatMap_nil, List.append_nil]; exact HO1.out, HB1.out⟩
      case round =>
        clear HO1 HB1
        obtain ⟨k, hk, hgg, rfl, ho, hb⟩ := hrel
        obtain ⟨c0, c1, c2, c3, c4, c5, c6⟩ := CELLS.out wr (HS1.out.below hb HLT.out)
        by_cases hlt : k < x.doors.length
        · have hst := HG1.out.doors
          rw [HED.out] at hst
          obtain ⟨b1, o1, p1, e1, _, _, hl1, _, hxx⟩ := hst.at_ hlt
          injection e1 with e1 e2 e3
          subst e1
          obtain ⟨y, hye⟩ : ∃ y, x.doors[k] = y := ⟨_, rfl⟩
          rw [hye] at hxx
          have hx0 : w1.cell? ⟨b1, o1 + k * 7, none⟩ = some (.string (ba y.name)) := by simpa using hxx 0 _ rfl
          have hx1 : w1.cell? ⟨b1, o1 + k * 7 + 1, none⟩ = some (.string (ba y.a)) := by simpa using hxx 1 _ rfl
          have hx2 : w1.cell? ⟨b1, o1 + k * 7 + 2, none⟩ = some (.string (ba y.b)) := by simpa using hxx 2 _ rfl
          have HO := Lib.hid ho
          have HB := Lib.hid hb
          have HSZ := Lib.hid (show w1.heap.size ≤ wr.heap.size from hb.size)
          have E := Lib.hid (show nm1 x ++ (x.doors.take (k + 1)).flatMap (fun p => [p.name, p.a, p.b]) = (nm1 x ++ (x.doors.take k).flatMap (fun p => [p.name, p.a, p.b])) ++ [y.name, y.a, y.b] by rw [take_flat_succ _ _ _ hlt, hye, List.append_assoc]; try rfl)
          have hlen : (nm1 x ++ (x.doors.take k).flatMap (fun p => [p.name, p.a, p.b])).length ≤ 7168 := by
            rw [List.length_append]
            have := flat_le (fun p => [p.name, p.a, p.b]) 3 (x.doors.take k) (fun _ _ => Nat.le_refl _) 1024 (by rw [List.length_take]; omega)
            omega
          have q1 : (0 : Int) ≤ (k : Int) := by omega
          have q2 : (k : Int) < (x.doors.length : Int) := by omega
          have hc1 := CELLS.out w1 HS1.out
          have HC := Lib.hid (fun (wy : World) (hy : Below w1.heap.size w1 wy) => (show wy.cell? ⟨w.heap.size, 3, none⟩ = some (.slice (some ⟨b1, o1, none⟩) x.doors.length cd) ∧ wy.cell? ⟨b1, o1 + k * 7, none⟩ = some (.string (ba y.name)) ∧ wy.cell? ⟨b1, o1 + k * 7 + 1, none⟩ = some (.string (ba y.a)) ∧ wy.cell? ⟨b1, o1 + k * 7 + 2, none⟩ = some (.string (ba y.b)) ∧ True from ⟨(hy.cell (p := ⟨w.heap.size, 3, none⟩) HLT.out).trans hc1.2.2.2.1, (hy.cell (p := ⟨b1, o1 + k * 7, none⟩) hl1).trans hx0, (hy.cell (p := ⟨b1, o1 + k * 7 + 1, none⟩) hl1).trans hx1, (hy.cell (p := ⟨b1, o1 + k * 7 + 2, none⟩) hl1).trans hx2, trivial⟩))
          clear hc1 ho hb e2 e3 hxx hst hye hx0 hx1 hx2
          go_upto_region 9 with fail
          have hSw : Below w1.heap.size w1 wr := HB.out
          refine wp_region_kinds (fun wy => Below w1.heap.size w1 wy) [] [19, 20] [2, 6, 8, 12, 14, 18] [0, 1, 3, 4, 5, 7, 9, 10, 11, 13, 15, 16, 17, 21] [0, 1, 2, 3, 4, 5, 6, 7, 8, 9, 10, 11, 12, 13, 14, 15, 16, 17, 18, 19, 20, 21] (by kernel_rfl) (by kernel_rfl) (fun w n h => below_drewN h n) ?_
          repeat (first | (refine wpKind_free (v := ?_) (by rfl) rfl (by rfl) ?_ ?_; rotate_left 1; (focus (intro wy; go_simp; rw [if_pos (show _ ∧ _ from ⟨by omega, by omega⟩)]; (try rw [Int.toNat_natCast]); (first | with_reducible rfl | (simp only [Nat.mul_one]; with_reducible rfl)); done)); try simp only [Act.put, List.setIfInBounds_toArray, List.set_cons_zero, List.set_cons_succ]) | (refine wpKind_free (v := ?_) (by rfl) rfl (by rfl) ?_ ?_; rotate_left 1; (focus (intro wy; go_simp; try with_reducible rfl; done)); try simp only [Act.put, List.setIfInBounds_toArray, List.set_cons_zero, List.set_cons_succ]) | (refine wpKind_held (v := ?_) (by rfl) rfl (by rfl) hSw ?_ ?_; rotate_left 1; (focus (intro wy hSy; obtain ⟨s0, s1, s2, s3, s4⟩ := HC.out wy hSy; go_simp; try with_reducible rfl; done)); try simp only [Act.put, List.setIfInBounds_toArray, List.set_cons_zero, List.set_cons_succ]))
          refine wpKind_serial (by rfl) rfl (fun n1 => ?_)
          go_wp2_with fail
          refine wpKind_serial (by rfl) rfl (fun n2 => ?_)
          go_wp2_with (at_builtin; refine wpList_append_sl _ rfl _ _ _ rfl w1.heap.size 9 i0 _ 16 Tryz.underlying22 hi0 hz0 hz1 hz2 rfl (by omega) nc_len nc_one _ _ (nm1 x ++ (x.doors.take k).flatMap (fun p => [p.name, p.a, p.b])) [y.name, y.a, y.b] rfl rfl (((HO.out.drewN n1).alloc _).drewN n2) ((Sl.newl [y.name, y.a, y.b] nc_len rfl rfl (by show 3 ≤ maxLen; decide) rfl).drewN n2) (by simp only [maxLen, List.length_cons, List.length_nil]; omega) (by simp only [List.length_cons, List.length_nil]; omega) (by have := HSZ.out; show w1.heap.size ≤ ((wr.drewN n1).alloc _).heap.size; rw [World.size_alloc]; show _ ≤ wr.heap.size + 1; omega) ?_; intro v1 w4 hown1 hg1 hmv1)
          have HB4 := Lib.hid (app_keep (w := (wr.drewN n1).drewN n2) (below_drewN (below_drewN HB.out n1) n2) HSZ.out ((HO.out.drewN n1).drewN n2) hg1)
          have HO4 := Lib.hid hown1
          clear hg1 hmv1 hown1 hSw
          repeat (first | (refine wpKind_free (v := ?_) (by rfl) rfl (by rfl) ?_ ?_; rotate_left 1; (focus (intro wy; go_simp; try with_reducible rfl; done)); try simp only [Act.put, List.setIfInBounds_toArray, List.set_cons_zero, List.set_cons_succ]) | (refine wpKind_free (v := ?_) (by rfl) rfl (by rfl) ?_ ?_; rotate_left 1; (focus (intro wy; go_simp; rw [if_pos (show _ ∧ _ from ⟨by omega, by omega⟩)]; (try rw [Int.toNat_natCast]); (first | with_reducible rfl | (simp only [Nat.mul_one]; with_reducible rfl)); done)); try simp only [Act.put, List.setIfInBounds_toArray, List.set_cons_zero, List.set_cons_succ]))
          refine wpKind_nil fun n5 => ?_
          go_wp2_with fail
          go_roundg (x.doors.length - (k + 1))
          case measure => omega
          case rel => exact ⟨k + 1, by omega, by omega, by go_num, by rw [E.out]; exact HO4.out.drewN n5, below_drewN HB4.out n5⟩
        · have hke : k = x.doors.length := by omega
          subst hke
          rw [List.take_length] at ho
          have ho0 : Ow nc 1 wr w1.heap.size 9 _ (nm2 x) := ho
          have hB := hb
          have q1 : ¬ (x.doors.length : Int) < (x.doors.length : Int) := Int.lt_irrefl _
          clear ho hb hlt hk hgg nl
          have HO2 := Lib.hid ho0
          have HB2 := Lib.hid hB
          have nl := nm2_len x HF.out
          clear ho0 hB
          go_wp2_with fail
          go_loopg [6, 3] x.routes.length (fun gg s v wx => ∃ k : Nat, k ≤ x.routes.length ∧ x.routes.length - k ≤ gg ∧ s = .int .i64 k ∧ Ow nc 1 wx w1.heap.size 9 v (nm2 x ++ (x.routes.take k).flatMap (fun r => [r.name] ++ r.stops)) ∧ Below w1.heap.size w1 wx)
          case atStart => exact ⟨0, Nat.zero_le _, by omega, rfl, by rw [List.take_zero, List.flatMap_nil, List.append_nil]; exact HO2.out, HB2.out⟩
          case round =>
            clear HO2 HB2
            obtain ⟨k, hk, hgg, rfl, ho, hb⟩ := hrel
            obtain ⟨c0, c1, c2, c3, c4, c5, c6⟩ := CELLS.out wr (HS1.out.below hb HLT.out)
            by_cases hlt : k < x.routes.length
            · have hst := HG1.out.routes
              rw [HER.out] at hst
              obtain ⟨b1, o1, p1, e1, _, _, hl1, _, hxx⟩ := hst.at_ hlt
              injection e1 with e1 e2 e3
              subst e1
              obtain ⟨y, hye⟩ : ∃ y, x.routes[k] = y := ⟨_, rfl⟩
              rw [hye] at hxx
              have hx0 : w1.cell? ⟨b1, o1 + k * 4, none⟩ = some (.string (ba y.name)) := by simpa using hxx 0 _ rfl
              have hx1 : w1.cell? ⟨b1, o1 + k * 4 + 1, none⟩ = some (y.vs) := by simpa using hxx 1 _ rfl
              have hgy := HG1.out.each y (by rw [← hye]; exact List.getElem_mem hlt)
              obtain ⟨Ax1, cx1, ex1, _, _⟩ := hgy.stops.shape
              have HGY1 := Lib.hid (hgy.stops)
              have HYE1 := Lib.hid ex1
              rw [ex1] at hx1
              have HO := Lib.hid ho
              have HB := Lib.hid hb
              have HSZ := Lib.hid (show w1.heap.size ≤ wr.heap.size from hb.size)
              have E := Lib.hid (show nm2 x ++ (x.routes.take (k + 1)).flatMap (fun r => [r.name] ++ r.stops) = (nm2 x ++ (x.routes.take k).flatMap (fun r => [r.name] ++ r.stops)) ++ ([y.name] ++ y.stops) by rw [take_flat_succ _ _ _ hlt, hye, List.append_assoc]; try rfl)
              have hlen : (nm2 x ++ (x.routes.take k).flatMap (fun r => [r.name] ++ r.stops)).length ≤ 1032192 := by
                rw [List.length_append]
                have := flat_le (fun r => [r.name] ++ r.stops) 1001 (x.routes.take k) (fun r hr => by have := (HF.out.each r (List.mem_of_mem_take hr)).1; simp; omega) 1024 (by rw [List.length_take]; omega)
                omega
              have q1 : (0 : Int) ≤ (k : Int) := by omega
              have q2 : (k : Int) < (x.routes.length : Int) := by omega
              have hc1 := CELLS.out w1 HS1.out
              have hyb := HF.out.each y (by rw [← hye]; exact List.getElem_mem hlt)
              obtain ⟨hyb1, hyb2, hyb3⟩ := hyb
              have HC := Lib.hid (fun (wy : World) (hy : Below w1.heap.size w1 wy) => (show wy.cell? ⟨w.heap.size, 4, none⟩ = some (.slice (some ⟨b1, o1, none⟩) x.routes.length cr) ∧ wy.cell? ⟨b1, o1 + k * 4, none⟩ = some (.string (ba y.name)) ∧ wy.cell? ⟨b1, o1 + k * 4 + 1, none⟩ = some (.slice Ax1 y.stops.length cx1) ∧ True ∧ True from ⟨(hy.cell (p := ⟨w.heap.size, 4, none⟩) HLT.out).trans hc1.2.2.2.2.1, (hy.cell (p := ⟨b1, o1 + k * 4, none⟩) hl1).trans hx0, (hy.cell (p := ⟨b1, o1 + k * 4 + 1, none⟩) hl1).trans hx1, trivial, trivial⟩))
              clear hc1 ho hb e2 e3 hxx hst hye hx0 hx1 hgy
              clear ex1
              go_upto_region 13 with fail
              have hSw : Below w1.heap.size w1 wr := HB.out
              refine wp_region_kinds (fun wy => Below w1.heap.size w1 wy) [7, 8] [15] [2, 6, 10, 14] [0, 1, 3, 4, 5, 9, 11, 12, 13, 16] [0, 1, 2, 3, 4, 5, 6, 9, 10, 11, 12, 13, 14, 7, 8, 15, 16] (by kernel_rfl) (by kernel_rfl) (fun w n h => below_drewN h n) ?_
              repeat (first | (refine wpKind_free (v := ?_) (by rfl) rfl (by rfl) ?_ ?_; rotate_left 1; (focus (intro wy; go_simp; rw [if_pos (show _ ∧ _ from ⟨by omega, by omega⟩)]; (try rw [Int.toNat_natCast]); (first | with_reducible rfl | (simp only [Nat.mul_one]; with_reducible rfl)); done)); try simp only [Act.put, List.setIfInBounds_toArray, List.set_cons_zero, List.set_cons_succ]) | (refine wpKind_free (v := ?_) (by rfl) rfl (by rfl) ?_ ?_; rotate_left 1; (focus (intro wy; go_simp; try with_reducible rfl; done)); try simp only [Act.put, List.setIfInBounds_toArray, List.set_cons_zero, List.set_cons_succ]) | (refine wpKind_held (v := ?_) (by rfl) rfl (by rfl) hSw ?_ ?_; rotate_left 1; (focus (intro wy hSy; obtain ⟨s0, s1, s2, s3, s4⟩ := HC.out wy hSy; go_simp; try with_reducible rfl; done)); try simp only [Act.put, List.setIfInBounds_toArray, List.set_cons_zero, List.set_cons_succ]))
              refine wpKind_keeps (by rfl) rfl (fun n1 => ?_)
              go_wp2_with fail
              show _ ∧ _
              refine ⟨(below_drewN HB.out n1).alloc HSZ.out _, ?_⟩
              refine wpKind_keeps (by rfl) rfl (fun n2 => ?_)
              go_wp2_with (at_builtin; refine wpList_append_sl _ rfl _ _ _ rfl w1.heap.size 9 i0 _ 16 Tryz.underlying22 hi0 hz0 hz1 hz2 rfl (by omega) nc_len nc_one _ _ (nm2 x ++ (x.routes.take k).flatMap (fun r => [r.name] ++ r.stops)) [y.name] rfl rfl (((HO.out.drewN n1).alloc _).drewN n2) ((Sl.new1 y.name rfl).drewN n2) (by simp only [maxLen, List.length_cons, List.length_nil]; omega) (by simp only [List.length_cons, List.length_nil]; omega) (by have := HSZ.out; show w1.heap.size ≤ ((wr.drewN n1).alloc _).heap.size; rw [World.size_alloc]; show _ ≤ wr.heap.size + 1; omega) ?_; intro v1 w4 hown1 hg1 hmv1)
              have hB4 : Below w1.heap.size w1 w4 := app_keep (w := (wr.drewN n1).drewN n2) (below_drewN (below_drewN HB.out n1) n2) HSZ.out ((HO.out.drewN n1).drewN n2) hg1
              have HB4 := Lib.hid hB4
              have HO4 := Lib.hid hown1
              have hgy4 : Sl nc 1 w4 (.slice Ax1 y.stops.length cx1) y.stops P := by rw [← HYE1.out]; exact HGY1.out.keep hB4.size fun b hb1 _ => hB4.block b hb1
              have HY4 := Lib.hid hgy4
              have HS4 := Lib.hid (show w1.heap.size ≤ w4.heap.size from hB4.size)
              show _ ∧ _
              refine ⟨hB4, ?_⟩
              clear hB4 hg1 hmv1 hown1 hgy4 hSw
              refine wpKind_serial (by rfl) rfl (fun n3 => ?_)
              go_wp2_with (at_builtin; refine wpList_append_sl _ rfl _ _ _ rfl w1.heap.size 9 i0 _ 16 Tryz.underlying22 hi0 hz0 hz1 hz2 rfl (by omega) nc_len nc_one _ _ ((nm2 x ++ (x.routes.take k).flatMap (fun r => [r.name] ++ r.stops)) ++ [y.name]) y.stops rfl rfl (HO4.out.drewN n3) (HY4.out.drewN n3) (by simp only [maxLen, List.length_append, List.length_cons, List.length_nil] at *; omega) (by simp only [List.length_append, List.length_cons, List.length_nil] at *; omega) HS4.out ?_; intro v5 w5 hown5 hg5 hmv5)
              have HB5 := Lib.hid (show Below w1.heap.size w1 w5 from (below_drewN HB4.out n3).grown hg5 HS4.out fun q hq => ((HO4.out.drewN n3).lt hq).1)
              have HO5 := Lib.hid hown5
              clear hg5 hmv5 hown5
              repeat (first | (refine wpKind_free (v := ?_) (by rfl) rfl (by rfl) ?_ ?_; rotate_left 1; (focus (intro wy; go_simp; try with_reducible rfl; done)); try simp only [Act.put, List.setIfInBounds_toArray, List.set_cons_zero, List.set_cons_succ]) | (refine wpKind_free (v := ?_) (by rfl) rfl (by rfl) ?_ ?_; rotate_left 1; (focus (intro wy; go_simp; rw [if_pos (show _ ∧ _ from ⟨by omega, by omega⟩)]; (try rw [Int.toNat_natCast]); (first | with_reducible rfl | (simp only [Nat.mul_one]; with_reducible rfl)); done)); try simp only [Act.put, List.setIfInBounds_toArray, List.set_cons_zero, List.set_cons_succ]))
              refine wpKind_nil fun n5 => ?_
              go_wp2_with fail
              go_roundg (x.routes.length - (k + 1))
              case measure => omega
              case rel => exact ⟨k + 1, by omega, by omega, by go_num, by rw [E.out, ← List.append_assoc]; exact HO5.out.drewN n5, below_drewN HB5.out n5⟩
            · have hke : k = x.routes.length := by omega
              subst hke
              rw [List.take_length] at ho
              have ho0 : Ow nc 1 wr w1.heap.size 9 _ (nm3 x) := ho
              have hB := hb
              have q1 : ¬ (x.routes.length : Int) < (x.routes.length : Int) := Int.lt_irrefl _
              clear ho hb hlt hk hgg nl
              have HO3 := Lib.hid ho0
              have HB3 := Lib.hid hB
              have nl := nm3_len x HF.out
              clear ho0 hB
              go_wp2_with fail
              go_loopg [7, 3] x.trips.length (fun gg s v wx => ∃ k : Nat, k ≤ x.trips.length ∧ x.trips.length - k ≤ gg ∧ s = .int .i64 k ∧ Ow nc 1 wx w1.heap.size 9 v (nm3 x ++ (x.trips.take k).flatMap (fun t => [t.name, t.route])) ∧ Below w1.heap.size w1 wx)
              case atStart => exact ⟨0, Nat.zero_le _, by omega, rfl, by rw [List.take_zero, List.flatMap_nil, List.append_nil]; exact HO3.out, HB3.out⟩
              case round =>
                clear HO3 HB3
                obtain ⟨k, hk, hgg, rfl, ho, hb⟩ := hrel
                obtain ⟨c0, c1, c2, c3, c4, c5, c6⟩ := CELLS.out wr (HS1.out.below hb HLT.out)
                by_cases hlt : k < x.trips.length
                · have hst := HG1.out.trips
                  rw [HET.out] at hst
                  obtain ⟨b1, o1, p1, e1, _, _, hl1, _, hxx⟩ := hst.at_ hlt
                  injection e1 with e1 e2 e3
                  subst e1
                  obtain ⟨y, hye⟩ : ∃ y, x.trips[k] = y := ⟨_, rfl⟩
                  rw [hye] at hxx
                  have hx0 : w1.cell? ⟨b1, o1 + k * 5, none⟩ = some (.string (ba y.name)) := by simpa using hxx 0 _ rfl
                  have hx1 : w1.cell? ⟨b1, o1 + k * 5 + 1, none⟩ = some (.string (ba y.route)) := by simpa using hxx 1 _ rfl
                  have HO := Lib.hid ho
                  have HB := Lib.hid hb
                  have HSZ := Lib.hid (show w1.heap.size ≤ wr.heap.size from hb.size)
                  have E := Lib.hid (show nm3 x ++ (x.trips.take (k + 1)).flatMap (fun t => [t.name, t.route]) = (nm3 x ++ (x.trips.take k).flatMap (fun t => [t.name, t.route])) ++ [y.name, y.route] by rw [take_flat_succ _ _ _ hlt, hye, List.append_assoc]; try rfl)
                  have hlen : (nm3 x ++ (x.trips.take k).flatMap (fun t => [t.name, t.route])).length ≤ 1034240 := by
                    rw [List.length_append]
                    have := flat_le (fun t => [t.name, t.route]) 2 (x.trips.take k) (fun _ _ => Nat.le_refl _) 1024 (by rw [List.length_take]; omega)
                    omega
                  have q1 : (0 : Int) ≤ (k : Int) := by omega
                  have q2 : (k : Int) < (x.trips.length : Int) := by omega
                  have hc1 := CELLS.out w1 HS1.out
                  have HC := Lib.hid (fun (wy : World) (hy : Below w1.heap.size w1 wy) => (show wy.cell? ⟨w.heap.size, 5, none⟩ = some (.slice (some ⟨b1, o1, none⟩) x.trips.length ct) ∧ wy.cell? ⟨b1, o1 + k * 5, none⟩ = some (.string (ba y.name)) ∧ wy.cell? ⟨b1, o1 + k * 5 + 1, none⟩ = some (.string (ba y.route)) ∧ True ∧ True from ⟨(hy.cell (p := ⟨w.heap.size, 5, none⟩) HLT.out).trans hc1.2.2.2.2.2.1, (hy.cell (p := ⟨b1, o1 + k * 5, none⟩) hl1).trans hx0, (hy.cell (p := ⟨b1, o1 + k * 5 + 1, none⟩) hl1).trans hx1, trivial, trivial⟩))
                  clear hc1 ho hb e2 e3 hxx hst hye hx0 hx1
                  go_upto_region 17 with fail
                  have hSw : Below w1.heap.size w1 wr := HB.out
                  refine wp_region_kinds (fun wy => Below w1.heap.size w1 wy) [] [13, 14] [2, 6, 8, 12] [0, 1, 3, 4, 5, 7, 9, 10, 11, 15] [0, 1, 2, 3, 4, 5, 6, 7, 8, 9, 10, 11, 12, 13, 14, 15] (by kernel_rfl) (by kernel_rfl) (fun w n h => below_drewN h n) ?_
                  repeat (first | (refine wpKind_free (v := ?_) (by rfl) rfl (by rfl) ?_ ?_; rotate_left 1; (focus (intro wy; go_simp; rw [if_pos (show _ ∧ _ from ⟨by omega, by omega⟩)]; (try rw [Int.toNat_natCast]); (first | with_reducible rfl | (simp only [Nat.mul_one]; with_reducible rfl)); done)); try simp only [Act.put, List.setIfInBounds_toArray, List.set_cons_zero, List.set_cons_succ]) | (refine wpKind_free (v := ?_) (by rfl) rfl (by rfl) ?_ ?_; rotate_left 1; (focus (intro wy; go_simp; try with_reducible rfl; done)); try simp only [Act.put, List.setIfInBounds_toArray, List.set_cons_zero, List.set_cons_succ]) | (refine wpKind_held (v := ?_) (by rfl) rfl (by rfl) hSw ?_ ?_; rotate_left 1; (focus (intro wy hSy; obtain ⟨s0, s1, s2, s3, s4⟩ := HC.out wy hSy; go_simp; try with_reducible rfl; done)); try simp only [Act.put, List.setIfInBounds_toArray, List.set_cons_zero, List.set_cons_succ]))
                  refine wpKind_serial (by rfl) rfl (fun n1 => ?_)
                  go_wp2_with fail
                  refine wpKind_serial (by rfl) rfl (fun n2 => ?_)
                  go_wp2_with (at_builtin; refine wpList_append_sl _ rfl _ _ _ rfl w1.heap.size 9 i0 _ 16 Tryz.underlying22 hi0 hz0 hz1 hz2 rfl (by omega) nc_len nc_one _ _ (nm3 x ++ (x.trips.take k).flatMap (fun t => [t.name, t.route])) [y.name, y.route] rfl rfl (((HO.out.drewN n1).alloc _).drewN n2) ((Sl.newl [y.name, y.route] nc_len rfl rfl (by show 2 ≤ maxLen; decide) rfl).drewN n2) (by simp only [maxLen, List.length_cons, List.length_nil]; omega) (by simp only [List.length_cons, List.length_nil]; omega) (by have := HSZ.out; show w1.heap.size ≤ ((wr.drewN n1).alloc _).heap.size; rw [World.size_alloc]; show _ ≤ wr.heap.size + 1; omega) ?_; intro v1 w4 hown1 hg1 hmv1)
                  have HB4 := Lib.hid (app_keep (w := (wr.drewN n1).drewN n2) (below_drewN (below_drewN HB.out n1) n2) HSZ.out ((HO.out.drewN n1).drewN n2) hg1)
                  have HO4 := Lib.hid hown1
                  clear hg1 hmv1 hown1 hSw
                  repeat (first | (refine wpKind_free (v := ?_) (by rfl) rfl (by rfl) ?_ ?_; rotate_left 1; (focus (intro wy; go_simp; try with_reducible rfl; done)); try simp only [Act.put, List.setIfInBounds_toArray, List.set_cons_zero, List.set_cons_succ]) | (refine wpKind_free (v := ?_) (by rfl) rfl (by rfl) ?_ ?_; rotate_left 1; (focus (intro wy; go_simp; rw [if_pos (show _ ∧ _ from ⟨by omega, by omega⟩)]; (try rw [Int.toNat_natCast]); (first | with_reducible rfl | (simp only [Nat.mul_one]; with_reducible rfl)); done)); try simp only [Act.put, List.setIfInBounds_toArray, List.set_cons_zero, List.set_cons_succ]))
                  refine wpKind_nil fun n5 => ?_
                  go_wp2_with fail
                  go_roundg (x.trips.length - (k + 1))
                  case measure => omega
                  case rel => exact ⟨k + 1, by omega, by omega, by go_num, by rw [E.out]; exact HO4.out.drewN n5, below_drewN HB4.out n5⟩
                · have hke : k = x.trips.length := by omega
                  subst hke
                  rw [List.take_length] at ho
                  have ho0 : Ow nc 1 wr w1.heap.size 9 _ (nm4 x) := ho
                  have hB := hb
                  have q1 : ¬ (x.trips.length : Int) < (x.trips.length : Int) := Int.lt_irrefl _
                  clear ho hb hlt hk hgg nl
                  have HO4 := Lib.hid ho0
                  have HB4 := Lib.hid hB
                  have nl := nm4_len x HF.out
                  clear ho0 hB
                  go_wp2_with fail
                  go_loopg [8, 3] x.hazs.length (fun gg s v wx => ∃ k : Nat, k ≤ x.hazs.length ∧ x.hazs.length - k ≤ gg ∧ s = .int .i64 k ∧ Ow nc 1 wx w1.heap.size 9 v (nm4 x ++ (x.hazs.take k).flatMap (fun h => [h.name, h.on])) ∧ Below w1.heap.size w1 wx)
                  case atStart => exact ⟨0, Nat.zero_le _, by omega, rfl, by rw [List.take_zero, List.flatMap_nil, List.append_nil]; exact HO4.out, HB4.out⟩
                  case round =>
                    clear HO4 HB4
                    obtain ⟨k, hk, hgg, rfl, ho, hb⟩ := hrel
                    obtain ⟨c0, c1, c2, c3, c4, c5, c6⟩ := CELLS.out wr (HS1.out.below hb HLT.out)
                    by_cases hlt : k < x.hazs.length
                    · have hst := HG1.out.hazs
                      rw [HEH.out] at hst
                      obtain ⟨b1, o1, p1, e1, _, _, hl1, _, hxx⟩ := hst.at_ hlt
                      injection e1 with e1 e2 e3
                      subst e1
                      obtain ⟨y, hye⟩ : ∃ y, x.hazs[k] = y := ⟨_, rfl⟩
                      rw [hye] at hxx
                      have hx0 : w1.cell? ⟨b1, o1 + k * 5, none⟩ = some (.string (ba y.name)) := by simpa using hxx 0 _ rfl
                      have hx1 : w1.cell? ⟨b1, o1 + k * 5 + 1, none⟩ = some (.string (ba y.on)) := by simpa using hxx 1 _ rfl
                      have HO := Lib.hid ho
                      have HB := Lib.hid hb
                      have HSZ := Lib.hid (show w1.heap.size ≤ wr.heap.size from hb.size)
                      have E := Lib.hid (show nm4 x ++ (x.hazs.take (k + 1)).flatMap (fun h => [h.name, h.on]) = (nm4 x ++ (x.hazs.take k).flatMap (fun h => [h.name, h.on])) ++ [y.name, y.on] by rw [take_flat_succ _ _ _ hlt, hye, List.append_assoc]; try rfl)
                      have hlen : (nm4 x ++ (x.hazs.take k).flatMap (fun h => [h.name, h.on])).length ≤ 1036288 := by
                        rw [List.length_append]
                        have := flat_le (fun h => [h.name, h.on]) 2 (x.hazs.take k) (fun _ _ => Nat.le_refl _) 1024 (by rw [List.length_take]; omega)
                        omega
                      have q1 : (0 : Int) ≤ (k : Int) := by omega
                      have q2 : (k : Int) < (x.hazs.length : Int) := by omega
                      have hc1 := CELLS.out w1 HS1.out
                      have HC := Lib.hid (fun (wy : World) (hy : Below w1.heap.size w1 wy) => (show wy.cell? ⟨w.heap.size, 6, none⟩ = some (.slice (some ⟨b1, o1, none⟩) x.hazs.length ch) ∧ wy.cell? ⟨b1, o1 + k * 5, none⟩ = some (.string (ba y.name)) ∧ wy.cell? ⟨b1, o1 + k * 5 + 1, none⟩ = some (.string (ba y.on)) ∧ True ∧ True from ⟨(hy.cell (p := ⟨w.heap.size, 6, none⟩) HLT.out).trans hc1.2.2.2.2.2.2, (hy.cell (p := ⟨b1, o1 + k * 5, none⟩) hl1).trans hx0, (hy.cell (p := ⟨b1, o1 + k * 5 + 1, none⟩) hl1).trans hx1, trivial, trivial⟩))
                      clear hc1 ho hb e2 e3 hxx hst hye hx0 hx1
                      go_upto_region 21 with fail
                      have hSw : Below w1.heap.size w1 wr := HB.out
                      refine wp_region_kinds (fun wy => Below w1.heap.size w1 wy) [] [13, 14] [2, 6, 8, 12] [0, 1, 3, 4, 5, 7, 9, 10, 11, 15] [0, 1, 2, 3, 4, 5, 6, 7, 8, 9, 10, 11, 12, 13, 14, 15] (by kernel_rfl) (by kernel_rfl) (fun w n h => below_drewN h n) ?_
                      repeat (first | (refine wpKind_free (v := ?_) (by rfl) rfl (by rfl) ?_ ?_; rotate_left 1; (focus (intro wy; go_simp; rw [if_pos (show _ ∧ _ from ⟨by omega, by omega⟩)]; (try rw [Int.toNat_natCast]); (first | with_reducible rfl | (simp only [Nat.mul_one]; with_reducible rfl)); done)); try simp only [Act.put, List.setIfInBounds_toArray, List.set_cons_zero, List.set_cons_succ]) | (refine wpKind_free (v := ?_) (by rfl) rfl (by rfl) ?_ ?_; rotate_left 1; (focus (intro wy; go_simp; try with_reducible rfl; done)); try simp only [Act.put, List.setIfInBounds_toArray, List.set_cons_zero, List.set_cons_succ]) | (refine wpKind_held (v := ?_) (by rfl) rfl (by rfl) hSw ?_ ?_; rotate_left 1; (focus (intro wy hSy; obtain ⟨s0, s1, s2, s3, s4⟩ := HC.out wy hSy; go_simp; try with_reducible rfl; done)); try simp only [Act.put, List.setIfInBounds_toArray, List.set_cons_zero, List.set_cons_succ]))
                      refine wpKind_serial (by rfl) rfl (fun n1 => ?_)
                      go_wp2_with fail
                      refine wpKind_serial (by rfl) rfl (fun n2 => ?_)
                      go_wp2_with (at_builtin; refine wpList_append_sl _ rfl _ _ _ rfl w1.heap.size 9 i0 _ 16 Tryz.underlying22 hi0 hz0 hz1 hz2 rfl (by omega) nc_len nc_one _ _ (nm4 x ++ (x.hazs.take k).flatMap (fun h => [h.name, h.on])) [y.name, y.on] rfl rfl (((HO.out.drewN n1).alloc _).drewN n2) ((Sl.newl [y.name, y.on] nc_len rfl rfl (by show 2 ≤ maxLen; decide) rfl).drewN n2) (by simp only [maxLen, List.length_cons, List.length_nil]; omega) (by simp only [List.length_cons, List.length_nil]; omega) (by have := HSZ.out; show w1.heap.size ≤ ((wr.drewN n1).alloc _).heap.size; rw [World.size_alloc]; show _ ≤ wr.heap.size + 1; omega) ?_; intro v1 w4 hown1 hg1 hmv1)
                      have HB4 := Lib.hid (app_keep (w := (wr.drewN n1).drewN n2) (below_drewN (below_drewN HB.out n1) n2) HSZ.out ((HO.out.drewN n1).drewN n2) hg1)
                      have HO4 := Lib.hid hown1
                      clear hg1 hmv1 hown1 hSw
                      repeat (first | (refine wpKind_free (v := ?_) (by rfl) rfl (by rfl) ?_ ?_; rotate_left 1; (focus (intro wy; go_simp; try with_reducible rfl; done)); try simp only [Act.put, List.setIfInBounds_toArray, List.set_cons_zero, List.set_cons_succ]) | (refine wpKind_free (v := ?_) (by rfl) rfl (by rfl) ?_ ?_; rotate_left 1; (focus (intro wy; go_simp; rw [if_pos (show _ ∧ _ from ⟨by omega, by omega⟩)]; (try rw [Int.toNat_natCast]); (first | with_reducible rfl | (simp only [Nat.mul_one]; with_reducible rfl)); done)); try simp only [Act.put, List.setIfInBounds_toArray, List.set_cons_zero, List.set_cons_succ]))
                      refine wpKind_nil fun n5 => ?_
                      go_wp2_with fail
                      go_roundg (x.hazs.length - (k + 1))
                      case measure => omega
                      case rel => exact ⟨k + 1, by omega, by omega, by go_num, by rw [E.out]; exact HO4.out.drewN n5, below_drewN HB4.out n5⟩
                    · have hke : k = x.hazs.length := by omega
                      subst hke
                      rw [List.take_length] at ho
                      have ho0 : Ow nc 1 wr w1.heap.size 9 _ (nm4 x ++ x.hazs.flatMap (fun h => [h.name, h.on])) := ho
                      have hB := hb
                      have q1 : ¬ (x.hazs.length : Int) < (x.hazs.length : Int) := Int.lt_irrefl _
                      clear ho hb hlt hk hgg nl
                      have HO := Lib.hid ho0
                      have HB := Lib.hid hB
                      clear ho0 hB
                      go_wp2_with fail
                      go_ret
                      exact ⟨_, rfl, by rw [← names_eq]; exact HO.out.lower HB1.out.size, HB1.out.trans (HB.out.mono HB1.out.size)⟩
end Go.Proofs.YteonefgbdphmiaaGreatDoor
