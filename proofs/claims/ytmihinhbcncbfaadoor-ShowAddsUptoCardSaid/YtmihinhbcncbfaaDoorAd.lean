/- The law ShowAdds: its walk. -/
import Derived.Test.YtmihinhbcncbfaaDoorAq
namespace Go.Proofs.YtmihinhbcncbfaaDoor
open Go.RowKit
set_option maxHeartbeats 4000000 in
set_option maxRecDepth 100000 in
theorem adds_dark (w : World) (x : SheetM) (n : Int) (tr : Bool) {P : Nat → Prop} (hg : x.Good w P) (ha : x.Arg w) (hT : Tabs w) (hP : Pow w) (hl : lightD x.d 60 = false) : Calls Tryd.prog 3 #[x.v, .int .i64 n, .bool tr] w fun e w' => e = .returned (.bool true) ∧ Below w.heap.size w w' := by
  obtain ⟨w1, hw1⟩ : ∃ w1, w.alloc (.cells x.c.toArray 29) = w1 := ⟨_, rfl⟩
  have hS1 : SheetAt w.heap.size x w1 := by rw [← hw1]; exact SheetAt.of (heap_alloc_new _ _)
  have hb1 : Below w.heap.size w w1 := by rw [← hw1]; exact (Below.refl _ _).alloc (Nat.le_refl _) _
  have HB1 := Lib.hid hb1
  have HS1 := Lib.hid hS1
  have HLT := Lib.hid (show w.heap.size < w1.heap.size by rw [← hw1]; simp)
  have HG1 := Lib.hid (hg.below_ hb1)
  have HT1 := Lib.hid (hT.below hb1)
  have HP1 := Lib.hid (hP.below hb1)
  have HM := Lib.hid (arg_names ha)
  have HA := Lib.hid ha
  obtain ⟨As, cs, Ap, cp, Ad, cd, Ar, cr, At, ct, Ah, ch, es, ep, ed, er, et, eh⟩ := SheetAt.forms hg
  have cells : ∀ wx, SheetAt w.heap.size x wx → wx.cell? ⟨w.heap.size, 0, none⟩ = some (.int .i64 x.hor) ∧ wx.cell? ⟨w.heap.size, 1, none⟩ = some (.slice As x.stops.length cs) ∧ wx.cell? ⟨w.heap.size, 2, none⟩ = some (.slice Ap x.paths.length cp) ∧ wx.cell? ⟨w.heap.size, 3, none⟩ = some (.slice Ad x.doors.length cd) ∧ wx.cell? ⟨w.heap.size, 4, none⟩ = some (.slice Ar x.routes.length cr) ∧ wx.cell? ⟨w.heap.size, 5, none⟩ = some (.slice At x.trips.length ct) ∧ wx.cell? ⟨w.heap.size, 6, none⟩ = some (.slice Ah x.hazs.length ch) := by
    rintro wx ⟨s0, s1, s2, s3, s4, s5, s6⟩
    rw [es] at s1
    rw [ep] at s2
    rw [ed] at s3
    rw [er] at s4
    rw [et] at s5
    rw [eh] at s6
    exact ⟨s0, s1, s2, s3, s4, s5, s6⟩
  have CELLS := Lib.hid fun wx (hb : Below w1.heap.size w1 wx) => cells wx (hS1.below hb (by rw [← hw1]; simp))
  have V : x.v = .agg #[.int .i64 x.hor, .slice As x.stops.length cs, .slice Ap x.paths.length cp, .slice Ad x.doors.length cd, .slice Ar x.routes.length cr, .slice At x.trips.length ct, .slice Ah x.hazs.length ch] := by
    unfold SheetM.v; rw [es, ep, ed, er, et, eh]
  have HLI := Lib.hid fun wy (hb : Below w1.heap.size w1 wy) => V ▸ light_any wy x (HG1.out.below_ hb)
  unfold SheetM.c at hw1
  rw [es, ep, ed, er, et, eh] at hw1
  have HES := Lib.hid es
  have HET := Lib.hid et
  have HV := Lib.hid V
  rw [V]
  clear V es ep ed er et eh hS1 hb1 cells hg hT hP ha
  rw [hl] at HLI
  clear hl
  go_enter Tryd.func3, Tryd.ntmps3
  go_wp2_with fail
  refine (lives_any w1 HP1.out).mono ?_
  rintro e w2 ⟨rfl, hb2⟩
  have HB2 := Lib.hid hb2
  clear hb2
  obtain ⟨c0, c1, c2, c3, c4, c5, c6⟩ := CELLS.out w2 HB2.out
  go_wp2_with fail
  refine (HLI.out w2 HB2.out).mono ?_
  rintro e w3 ⟨rfl, hb3⟩
  have HB3 := Lib.hid (HB2.out.trans (hb3.mono HB2.out.size))
  clear hb3 hw1 c0 c1 c2 c3 c4 c5 c6
  go_wp2_with fail
  go_ret
  exact ⟨rfl, HB1.out.trans (HB3.out.mono HB1.out.size)⟩
set_option maxHeartbeats 16000000 in
set_option maxRecDepth 100000 in
theorem adds_light (w : World) (x : SheetM) (n : Int) (tr : Bool) {P : Nat → Prop} (hg : x.Good w P) (ha : x.Arg w) (hT : Tabs w) (hP : Pow w) (hl : lightD x.d 60 = true) (hbt : ∀ t ∈ x.trips, (tripL t).length ≤ 140737488355328) (hbs : ∀ s ∈ x.stops, s.length ≤ 100000000) : Calls Tryd.prog 3 #[x.v, .int .i64 n, .bool tr] w fun e w' => e = .returned (.bool true) ∧ Below w.heap.size w w' := by
  obtain ⟨i0, hi0, hz0, hz1, hz2⟩ := info_parts info_trip
  obtain ⟨j0, hj0, hy0, hy1, hy2⟩ := info_parts info_string
  obtain ⟨w1, hw1⟩ : ∃ w1, w.alloc (.cells x.c.toArray 29) = w1 := ⟨_, rfl⟩
  have hS1 : SheetAt w.heap.size x w1 := by rw [← hw1]; exact SheetAt.of (heap_alloc_new _ _)
  have hb1 : Below w.heap.size w w1 := by rw [← hw1]; exact (Below.refl _ _).alloc (Nat.le_refl _) _
  have HB1 := Lib.hid hb1
  have HS1 := Lib.hid hS1
  have HLT := Lib.hid (show w.heap.size < w1.heap.size by rw [← hw1]; simp)
  have HG1 := Lib.hid (hg.below_ hb1)
  have HT1 := Lib.hid (hT.below hb1)
  have HP1 := Lib.hid (hP.below hb1)
  have HM := Lib.hid (arg_names ha)
  have HA := Lib.hid ha
  obtain ⟨As, cs, Ap, cp, Ad, cd, Ar, cr, At, ct, Ah, ch, es, ep, ed, er, et, eh⟩ := SheetAt.forms hg
  have cells : ∀ wx, SheetAt w.heap.size x wx → wx.cell? ⟨w.heap.size, 0, none⟩ = some (.int .i64 x.hor) ∧ wx.cell? ⟨w.heap.size, 1, none⟩ = some (.slice As x.stops.length cs) ∧ wx.cell? ⟨w.heap.size, 2, none⟩ = some (.slice Ap x.paths.length cp) ∧ wx.cell? ⟨w.heap.size, 3, none⟩ = some (.slice Ad x.doors.length cd) ∧ wx.cell? ⟨w.heap.size, 4, none⟩ = some (.slice Ar x.routes.length cr) ∧ wx.cell? ⟨w.heap.size, 5, none⟩ = some (.slice At x.trips.length ct) ∧ wx.cell? ⟨w.heap.size, 6, none⟩ = some (.slice Ah x.hazs.length ch) := by
    rintro wx ⟨s0, s1, s2, s3, s4, s5, s6⟩
    rw [es] at s1
    rw [ep] at s2
    rw [ed] at s3
    rw [er] at s4
    rw [et] at s5
    rw [eh] at s6
    exact ⟨s0, s1, s2, s3, s4, s5, s6⟩
  have CELLS := Lib.hid fun wx (hb : Below w1.heap.size w1 wx) => cells wx (hS1.below hb (by rw [← hw1]; simp))
  have V : x.v = .agg #[.int .i64 x.hor, .slice As x.stops.length cs, .slice Ap x.paths.length cp, .slice Ad x.doors.length cd, .slice Ar x.routes.length cr, .slice At x.trips.length ct, .slice Ah x.hazs.length ch] := by
    unfold SheetM.v; rw [es, ep, ed, er, et, eh]
  have HLI := Lib.hid fun wy (hb : Below w1.heap.size w1 wy) => V ▸ light_any wy x (HG1.out.below_ hb)
  unfold SheetM.c at hw1
  rw [es, ep, ed, er, et, eh] at hw1
  have HES := Lib.hid es
  have HET := Lib.hid et
  have HV := Lib.hid V
  rw [V]
  clear V es ep ed er et eh hS1 hb1 cells hg hT hP ha
  rw [hl] at HLI
  have HOS := Lib.hid fun wy (hb : Below w1.heap.size w1 wy) => HV.out ▸ ownSheet1_any wy x (HG1.out.below_ hb) (light_few hl)
  have HADD := Lib.hid fun (y : SheetM) pl ln h => added_of (y := y) (pl := pl) (ln := ln) hl HM.out h
  obtain ⟨⟨n1, n2, n3, n4, n5, n6⟩, _⟩ := light_parts hl
  have HL := Lib.hid hl
  have HBT := Lib.hid hbt
  have HBS := Lib.hid hbs
  clear hl hbt hbs
  go_enter Tryd.func3, Tryd.ntmps3
  go_wp2_with fail
  refine (lives_any w1 HP1.out).mono ?_
  rintro e w2 ⟨rfl, hb2⟩
  have HB2 := Lib.hid hb2
  clear hb2
  obtain ⟨c0, c1, c2, c3, c4, c5, c6⟩ := CELLS.out w2 HB2.out
  go_wp2_with fail
  refine (HLI.out w2 HB2.out).mono ?_
  rintro e w3 ⟨rfl, hb3⟩
  have HB3 := Lib.hid (HB2.out.trans (hb3.mono HB2.out.size))
  clear hb3 hw1 c0 c1 c2 c3 c4 c5 c6
  obtain ⟨c0, c1, c2, c3, c4, c5, c6⟩ := CELLS.out w3 HB3.out
  go_wp2_with fail
  refine (HOS.out w3 HB3.out).mono ?_
  rintro e w4 ⟨A1, k1, A2, k2, A3, k3, A4, m4, k4, A5, k5, A6, k6, rs, hrs, rfl, hO⟩
  have HB4 := Lib.hid (HB3.out.trans (hO.below.mono HB3.out.size))
  have HO := Lib.hid hO
  have HRS := Lib.hid hrs
  clear c0 c1 c2 c3 c4 c5 c6 hO hrs
  obtain ⟨w5, hw5⟩ : ∃ w5, w4.alloc (.cells #[.int .i64 x.hor, .slice A1 x.stops.length k1, .slice A2 x.paths.length k2, .slice A3 x.doors.length k3, .slice A4 m4 k4, .slice A5 x.trips.length k5, .slice A6 x.hazs.length k6] 29) = w5 := ⟨_, rfl⟩
  have hb5 : Below w4.heap.size w4 w5 := by rw [← hw5]; exact (Below.refl _ _).alloc (Nat.le_refl _) _
  have HP5 := Lib.hid (show w5.heap[w4.heap.size]? = some (.cells #[.int .i64 x.hor, .slice A1 x.stops.length k1, .slice A2 x.paths.length k2, .slice A3 x.doors.length k3, .slice A4 m4 k4, .slice A5 x.trips.length k5, .slice A6 x.hazs.length k6] 29 (0, 0)) by rw [← hw5]; exact heap_alloc_new _ _)
  have HB45 := Lib.hid hb5
  have HB5 := Lib.hid (HB4.out.trans (hb5.mono HB4.out.size))
  clear hb5
  obtain ⟨c0, c1, c2, c3, c4, c5, c6⟩ := CELLS.out w5 HB5.out
  go_upto_if 27 with fail
  clear hw5
  go_cut [8, 9] (fun s8 s9 wx => ∃ (y : SheetM) (pl : Nat) (ln : List UInt8), s8 = .int .i64 pl ∧ s9 = .string (ba ln) ∧ wx.heap[w4.heap.size]? = some (.cells y.c.toArray 29 (0, 0)) ∧ y.Good wx (fun _ => True) ∧ Below w1.heap.size w1 wx ∧ Added x y pl ln)
  case first =>
    cases tr
    · by_cases hlen : x.stops.length = 0
      · have hlen1 : ((x.stops.length : Int) == 0) = true := beq_iff_eq.2 (by omega)
        go_wp2_with fail
        go_ret
        exact ⟨rfl, HB1.out.trans (HB5.out.mono HB1.out.size)⟩
      · have hlen1 : ((x.stops.length : Int) == 0) = false := beq_eq_false_iff_ne.2 (by omega)
        obtain ⟨kk, hkk⟩ : ∃ kk : Nat, n % (x.stops.length : Int) = kk := ⟨(n % (x.stops.length : Int)).toNat, by have := pick_lt n x.stops.length (by omega); omega⟩
        have hkl : kk < x.stops.length := by have := (pick_lt n x.stops.length (by omega)).2; omega
        have HPK := Lib.hid fun wy => hkk ▸ pick_any n x.stops.length wy (by omega) (by omega)
        have hst := HG1.out.stops
        rw [HES.out] at hst
        obtain ⟨b1, o1, p1, e1, _, _, hl1, _, hxx⟩ := hst.at_ hkl
        injection e1 with e1 e2 e3
        subst e1 e3
        obtain ⟨y, hye⟩ : ∃ y, x.stops[kk] = y := ⟨_, rfl⟩
        have hmem : y ∈ x.stops := hye ▸ List.getElem_mem hkl
        rw [hye] at hxx
        have hx0 : w5.cell? ⟨b1, o1 + kk, none⟩ = some (.string (ba y)) := (HB5.out.cell (p := ⟨b1, o1 + kk, none⟩) hl1).trans (by simpa using hxx 0 _ rfl)
        have r3 : (0 : Int) ≤ (kk : Int) := by omega
        have r4 : (kk : Int) < (x.stops.length : Int) := by omega
        have ys : (ba y).size ≤ 100000000 := by rw [ba_size]; exact HBS.out y hmem
        have HMEM := Lib.hid hmem
        clear hxx hst hye hmem hkk
        go_wp2_with fail
        go_quiet ((go_at_call 9; exact quiet_of_eq (HPK.out (w5.drewN _))))
        have plt : w4.heap.size < w5.heap.size := (Array.getElem?_eq_some_iff.1 HP5.out).1
        obtain ⟨wc, hwc⟩ : ∃ wc, w5.drewN nq = wc := ⟨_, rfl⟩
        rw [hwc]
        have hbq : Below w5.heap.size w5 wc := by rw [← hwc]; exact below_drewN (Below.refl _ _) nq
        have hPc := (hbq.block _ plt).trans HP5.out
        have y5 : wc.cell? ⟨w4.heap.size, 1, none⟩ = some (.slice A1 x.stops.length k1) := Lib.cell_of_heap hPc 1
        have hot : Ow nc 1 wc w3.heap.size 9 (.slice A1 x.stops.length k1) x.stops :=
          Ow.below (Ow.below HO.out.stops HB45.out fun k hk => (HO.out.stops.lt hk).2) hbq fun k hk => Nat.lt_of_lt_of_le (HO.out.stops.lt hk).2 HB45.out.size
        have HOT := Lib.hid hot
        have HBQ := Lib.hid hbq
        have HWC := Lib.hid (show w3.heap.size ≤ wc.heap.size from Nat.le_trans HO.out.below.size (Nat.le_trans HB45.out.size hbq.size))
        have E : (⟨#[115, 116, 111, 112, 32]⟩ : ByteArray) ++ ba y = ba (stopL y) := by
          rw [stopL_eq]
          apply ByteArray.ext
          simp [ba, ByteArray.data_append]
        clear hPc hot hbq plt hwc c0 c1 c2 c3 c4 c5 c6 hx0
        go_wp2_with (at_builtin; refine wpList_append_sl _ rfl _ _ _ rfl w3.heap.size 9 j0 _ 16 Tryd.underlying22 hj0 hy0 hy1 hy2 (by rfl) (by omega) nc_len nc_one _ _ x.stops [y] rfl rfl (HOT.out.alloc _) (Sl.newl [y] nc_len rfl rfl (by show 1 ≤ maxLen; decide) rfl) (by simp only [maxLen, List.length_cons, List.length_nil]; omega) (by simp only [List.length_cons, List.length_nil]; omega) (by have := HWC.out; simp; omega) ?_; intro v6 w6 hown6 hg6 hmv6; obtain ⟨Aw, nw, cw, ew⟩ := ow_form hown6; subst ew; have happ := app_stop HO.out HP5.out HB45.out HBQ.out hown6 hg6 HB5.out HB3.out.size; obtain ⟨a1, a2, a3, a4, a5⟩ := happ; have y6 := Lib.cell_of_heap a1 1; have g6 := Lib.frozen_of_heap a1 1)
        go_meet
        case rel => exact ⟨_, 1 + x.stops.length, stopL y, congrArg (Value.int .i64) (by omega), rfl, a4, a5, a3, HADD.out _ _ _ (.inr ⟨y, HMEM.out, by unfold addS SheetM.d; rw [HRS.out], rfl, rfl⟩)⟩
    · by_cases hlen : x.trips.length = 0
      · have hlen1 : ((x.trips.length : Int) == 0) = true := beq_iff_eq.2 (by omega)
        go_wp2_with fail
        go_ret
        exact ⟨rfl, HB1.out.trans (HB5.out.mono HB1.out.size)⟩
      · have hlen1 : ((x.trips.length : Int) == 0) = false := beq_eq_false_iff_ne.2 (by omega)
        obtain ⟨kk, hkk⟩ : ∃ kk : Nat, n % (x.trips.length : Int) = kk := ⟨(n % (x.trips.length : Int)).toNat, by have := pick_lt n x.trips.length (by omega); omega⟩
        have hkl : kk < x.trips.length := by have := (pick_lt n x.trips.length (by omega)).2; omega
        have HPK := Lib.hid fun wy => hkk ▸ pick_any n x.trips.length wy (by omega) (by omega)
        have hst := HG1.out.trips
        rw [HET.out] at hst
        obtain ⟨b1, o1, p1, e1, _, _, hl1, _, hxx⟩ := hst.at_ hkl
        injection e1 with e1 e2 e3
        subst e1 e3
        obtain ⟨y, hye⟩ : ∃ y, x.trips[kk] = y := ⟨_, rfl⟩
        have hmem : y ∈ x.trips := hye ▸ List.getElem_mem hkl
        rw [hye] at hxx
        have hx0 : w5.cell? ⟨b1, o1 + kk * 5, none⟩ = some (.string (ba y.name)) := (HB5.out.cell (p := ⟨b1, o1 + kk * 5, none⟩) hl1).trans (by simpa using hxx 0 _ rfl)
        have hx1 : w5.cell? ⟨b1, o1 + kk * 5 + 1, none⟩ = some (.string (ba y.route)) := (HB5.out.cell (p := ⟨b1, o1 + kk * 5 + 1, none⟩) hl1).trans (by simpa using hxx 1 _ rfl)
        have hx2 : w5.cell? ⟨b1, o1 + kk * 5 + 2, none⟩ = some (.int .i64 y.start) := (HB5.out.cell (p := ⟨b1, o1 + kk * 5 + 2, none⟩) hl1).trans (by simpa using hxx 2 _ rfl)
        have hx3 : w5.cell? ⟨b1, o1 + kk * 5 + 3, none⟩ = some (.int .i64 y.every) := (HB5.out.cell (p := ⟨b1, o1 + kk * 5 + 3, none⟩) hl1).trans (by simpa using hxx 3 _ rfl)
        have hx4 : w5.cell? ⟨b1, o1 + kk * 5 + 4, none⟩ = some (.int .i64 y.stop) := (HB5.out.cell (p := ⟨b1, o1 + kk * 5 + 4, none⟩) hl1).trans (by simpa using hxx 4 _ rfl)
        have hSw : (fun wy : World => wy.cell? ⟨w.heap.size, 5, none⟩ = some (.slice (some ⟨b1, o1, none⟩) x.trips.length ct) ∧ wy.cell? ⟨b1, o1 + kk * 5, none⟩ = some (.string (ba y.name)) ∧ wy.cell? ⟨b1, o1 + kk * 5 + 1, none⟩ = some (.string (ba y.route)) ∧ wy.cell? ⟨b1, o1 + kk * 5 + 2, none⟩ = some (.int .i64 y.start) ∧ wy.cell? ⟨b1, o1 + kk * 5 + 3, none⟩ = some (.int .i64 y.every) ∧ wy.cell? ⟨b1, o1 + kk * 5 + 4, none⟩ = some (.int .i64 y.stop)) w5 := ⟨c5, hx0, hx1, hx2, hx3, hx4⟩
        have HSV := Lib.hid (show ∀ wy, Below w5.heap.size w5 wy → (fun wy : World => wy.cell? ⟨w.heap.size, 5, none⟩ = some (.slice (some ⟨b1, o1, none⟩) x.trips.length ct) ∧ wy.cell? ⟨b1, o1 + kk * 5, none⟩ = some (.string (ba y.name)) ∧ wy.cell? ⟨b1, o1 + kk * 5 + 1, none⟩ = some (.string (ba y.route)) ∧ wy.cell? ⟨b1, o1 + kk * 5 + 2, none⟩ = some (.int .i64 y.start) ∧ wy.cell? ⟨b1, o1 + kk * 5 + 3, none⟩ = some (.int .i64 y.every) ∧ wy.cell? ⟨b1, o1 + kk * 5 + 4, none⟩ = some (.int .i64 y.stop)) wy from fun wy hb => by
          have hl5 : b1 < w5.heap.size := Nat.lt_of_lt_of_le hl1 HB5.out.size
          have hw5 : w.heap.size < w5.heap.size := Nat.lt_of_lt_of_le HLT.out HB5.out.size
          exact ⟨(hb.cell (p := ⟨w.heap.size, 5, none⟩) hw5).trans c5, (hb.cell (p := ⟨b1, o1 + kk * 5, none⟩) hl5).trans hx0, (hb.cell (p := ⟨b1, o1 + kk * 5 + 1, none⟩) hl5).trans hx1, (hb.cell (p := ⟨b1, o1 + kk * 5 + 2, none⟩) hl5).trans hx2, (hb.cell (p := ⟨b1, o1 + kk * 5 + 3, none⟩) hl5).trans hx3, (hb.cell (p := ⟨b1, o1 + kk * 5 + 4, none⟩) hl5).trans hx4⟩)
        have r3 : (0 : Int) ≤ (kk : Int) := by omega
        have r4 : (kk : Int) < (x.trips.length : Int) := by omega
        have HMEM := Lib.hid hmem
        clear hxx hst hye hmem hx0 hx1 hx2 hx3 hx4 hkk
        go_upto_region 10 with fail
        clear c0 c1 c2 c3 c4 c5 c6
        go_cut [10] (fun s10 wx => ∃ q, s10 = .pointer (some ⟨q, 0, none⟩) ∧ w5.heap.size ≤ q ∧ wx.heap[q]? = some (.cells #[.string (ba y.name), .string (ba y.route), .int .i64 y.start, .int .i64 y.every, .int .i64 y.stop] 34 (0, 0)) ∧ Below w5.heap.size w5 wx)
        case first =>
          refine wp_region_goon (fun wy : World => wy.cell? ⟨w.heap.size, 5, none⟩ = some (.slice (some ⟨b1, o1, none⟩) x.trips.length ct) ∧ wy.cell? ⟨b1, o1 + kk * 5, none⟩ = some (.string (ba y.name)) ∧ wy.cell? ⟨b1, o1 + kk * 5 + 1, none⟩ = some (.string (ba y.route)) ∧ wy.cell? ⟨b1, o1 + kk * 5 + 2, none⟩ = some (.int .i64 y.start) ∧ wy.cell? ⟨b1, o1 + kk * 5 + 3, none⟩ = some (.int .i64 y.every) ∧ wy.cell? ⟨b1, o1 + kk * 5 + 4, none⟩ = some (.int .i64 y.stop)) [6, 9] [10] [1, 4, 8] [0, 2, 3, 5, 7] (by kernel_rfl) ?_
          refine goon_walk [0, 1, 2, 3, 4, 5] 5 rfl (by kernel_rfl) (by kernel_rfl) (fun w n h => h) ?_
          repeat (first | (refine wpKind_free (v := ?_) (by rfl) rfl (by rfl) ?_ ?_; rotate_left 1; (focus (intro wy; go_simp; try with_reducible rfl; done)); try simp only [Act.put, List.setIfInBounds_toArray, List.set_cons_zero, List.set_cons_succ]) | (refine wpKind_held (v := ?_) (by rfl) rfl (by rfl) hSw ?_ ?_; rotate_left 1; (focus (intro wy hSy; obtain ⟨s0, s1, s2, s3, s4, s5⟩ := hSy; go_simp; try with_reducible rfl; done)); try simp only [Act.put, List.setIfInBounds_toArray, List.set_cons_zero, List.set_cons_succ]))
          refine wpKind_fin ?_
          refine goon_two 6 9 (by kernel_rfl) ?_ ?_
          · refine hOp_keeps (by rfl) rfl (fun m1 => ?_)
            go_wp2_with fail
            refine (HPK.out (w5.drewN m1)).mono ?_
            rintro e w6 ⟨rfl, rfl⟩
            go_wp2_with fail
            have hSw := HSV.out (w5.drewN m1) (below_drewN (Below.refl _ _) m1)
            show _ ∧ _
            refine ⟨hSw, ?_⟩
            refine goon_walk [7, 8, 9, 10] 0 rfl (by kernel_rfl) (by kernel_rfl) (fun w n h => h) ?_
            repeat (first | (refine wpKind_free (v := ?_) (by rfl) rfl (by rfl) ?_ ?_; rotate_left 1; (focus (intro wy; go_simp; try with_reducible rfl; done)); try simp only [Act.put, List.setIfInBounds_toArray, List.set_cons_zero, List.set_cons_succ]) | (refine wpKind_free (v := ?_) (by rfl) rfl (by rfl) ?_ ?_; rotate_left 1; (focus (intro wy; go_simp; rw [if_pos (show _ ∧ _ from ⟨by omega, by omega⟩)]; (try rw [Int.toNat_natCast]); (first | with_reducible rfl | (simp only [Nat.mul_one]; with_reducible rfl)); done)); try simp only [Act.put, List.setIfInBounds_toArray, List.set_cons_zero, List.set_cons_succ]) | (refine wpKind_held (v := ?_) (by rfl) rfl (by rfl) hSw ?_ ?_; rotate_left 1; (focus (intro wy hSy; obtain ⟨s0, s1, s2, s3, s4, s5⟩ := hSy; go_simp; try with_reducible rfl; done)); try simp only [Act.put, List.setIfInBounds_toArray, List.set_cons_zero, List.set_cons_succ]))
            refine wpKind_keeps (by rfl) rfl (fun m2 => ?_)
            go_wp2_with fail
            generalize hw7 : World.alloc _ (.cells #[.string ⟨#[]⟩, .string ⟨#[]⟩, .int .i64 0, .int .i64 0, .int .i64 0] 34) = w7
            have hz7 : w7.heap[w5.heap.size]? = some (.cells #[.string ⟨#[]⟩, .string ⟨#[]⟩, .int .i64 0, .int .i64 0, .int .i64 0] 34 (0, 0)) := by rw [← hw7]; exact heap_alloc_new (w5.drewN (m1 + m2)) _
            have hb7 : Below w5.heap.size w5 w7 := by rw [← hw7]; exact (below_drewN (Below.refl _ _) _).alloc (by exact Nat.le_refl _) _
            clear hw7 hSw
            have hSw := HSV.out w7 hb7
            show _ ∧ _
            refine ⟨hSw, ?_⟩
            repeat (first | (refine wpKind_free (v := ?_) (by rfl) rfl (by rfl) ?_ ?_; rotate_left 1; (focus (intro wy; go_simp; try with_reducible rfl; done)); try simp only [Act.put, List.setIfInBounds_toArray, List.set_cons_zero, List.set_cons_succ]) | (refine wpKind_free (v := ?_) (by rfl) rfl (by rfl) ?_ ?_; rotate_left 1; (focus (intro wy; go_simp; rw [if_pos (show _ ∧ _ from ⟨by omega, by omega⟩)]; (try rw [Int.toNat_natCast]); (first | with_reducible rfl | (simp only [Nat.mul_one]; with_reducible rfl)); done)); try simp only [Act.put, List.setIfInBounds_toArray, List.set_cons_zero, List.set_cons_succ]) | (refine wpKind_held (v := ?_) (by rfl) rfl (by rfl) hSw ?_ ?_; rotate_left 1; (focus (intro wy hSy; obtain ⟨s0, s1, s2, s3, s4, s5⟩ := hSy; go_simp; try with_reducible rfl; done)); try simp only [Act.put, List.setIfInBounds_toArray, List.set_cons_zero, List.set_cons_succ]))
            have x0 : w7.cell? ⟨w5.heap.size, 0, none⟩ = some (.string ⟨#[]⟩) := Lib.cell_of_heap hz7 0
            have x1 : w7.cell? ⟨w5.heap.size, 1, none⟩ = some (.string ⟨#[]⟩) := Lib.cell_of_heap hz7 1
            have x2 : w7.cell? ⟨w5.heap.size, 2, none⟩ = some (.int .i64 0) := Lib.cell_of_heap hz7 2
            have x3 : w7.cell? ⟨w5.heap.size, 3, none⟩ = some (.int .i64 0) := Lib.cell_of_heap hz7 3
            have x4 : w7.cell? ⟨w5.heap.size, 4, none⟩ = some (.int .i64 0) := Lib.cell_of_heap hz7 4
            have f0 : w7.frozen? ⟨w5.heap.size, 0, none⟩ = false := Lib.frozen_of_heap hz7 0
            have f1 : w7.frozen? ⟨w5.heap.size, 1, none⟩ = false := Lib.frozen_of_heap hz7 1
            have f2 : w7.frozen? ⟨w5.heap.size, 2, none⟩ = false := Lib.frozen_of_heap hz7 2
            have f3 : w7.frozen? ⟨w5.heap.size, 3, none⟩ = false := Lib.frozen_of_heap hz7 3
            have f4 : w7.frozen? ⟨w5.heap.size, 4, none⟩ = false := Lib.frozen_of_heap hz7 4
            refine wpKind_serial (by rfl) rfl (fun n3 => ?_)
            have t0 := heap_setCell_same (w7.drewN n3) w5.heap.size 0 _ _ (.string (ba y.name)) hz7
            have t1 := heap_setCell_same _ w5.heap.size 1 _ _ (.string (ba y.route)) t0
            have t2 := heap_setCell_same _ w5.heap.size 2 _ _ (.int .i64 y.start) t1
            have t3 := heap_setCell_same _ w5.heap.size 3 _ _ (.int .i64 y.every) t2
            have t4 := heap_setCell_same _ w5.heap.size 4 _ _ (.int .i64 y.stop) t3
            have HQ := Lib.hid t4
            have HQB := Lib.hid ((((((below_drewN hb7 n3).setCell (p := ⟨w5.heap.size, 0, none⟩) (Nat.le_refl _) (.string (ba y.name))).setCell (p := ⟨w5.heap.size, 1, none⟩) (Nat.le_refl _) (.string (ba y.route))).setCell (p := ⟨w5.heap.size, 2, none⟩) (Nat.le_refl _) (.int .i64 y.start)).setCell (p := ⟨w5.heap.size, 3, none⟩) (Nat.le_refl _) (.int .i64 y.every)).setCell (p := ⟨w5.heap.size, 4, none⟩) (Nat.le_refl _) (.int .i64 y.stop))
            clear t0 t1 t2 t3 t4 hz7 hb7 hSw
            go_wp2_with fail
            clear x0 x1 x2 x3 x4 f0 f1 f2 f3 f4
            show wpKind _ _ _ _ _ _ _ _ _
            refine wpKind_fin ?_
            refine goon_end (by kernel_rfl) (fun n4 => ?_)
            go_wp2_with fail
            go_meet
            case rel => exact ⟨_, rfl, Nat.le_refl _, HQ.out, below_drewN HQB.out n4⟩
          · refine hOp_keeps (by rfl) rfl (fun m1 => ?_)
            go_wp2_with fail
            generalize hw7 : World.alloc _ (.cells #[.string ⟨#[]⟩, .string ⟨#[]⟩, .int .i64 0, .int .i64 0, .int .i64 0] 34) = w6
            have hz6 : w6.heap[w5.heap.size]? = some (.cells #[.string ⟨#[]⟩, .string ⟨#[]⟩, .int .i64 0, .int .i64 0, .int .i64 0] 34 (0, 0)) := by rw [← hw7]; exact heap_alloc_new (w5.drewN m1) _
            have hb6 : Below w5.heap.size w5 w6 := by rw [← hw7]; exact (below_drewN (Below.refl _ _) _).alloc (by exact Nat.le_refl _) _
            clear hw7 hSw
            show _ ∧ _
            refine ⟨HSV.out w6 hb6, ?_⟩
            refine goon_walk [6, 7, 8, 10] 0 rfl (by kernel_rfl) (by kernel_rfl) (fun w n h => h) ?_
            refine wpKind_keeps (by rfl) rfl (fun m2 => ?_)
            go_wp2_with fail
            refine (HPK.out (w6.drewN m2)).mono ?_
            rintro e w7 ⟨rfl, rfl⟩
            go_wp2_with fail
            obtain ⟨w7, hw7⟩ : ∃ w7, w6.drewN m2 = w7 := ⟨_, rfl⟩
            have hz7 : w7.heap[w5.heap.size]? = some (.cells #[.string ⟨#[]⟩, .string ⟨#[]⟩, .int .i64 0, .int .i64 0, .int .i64 0] 34 (0, 0)) := by rw [← hw7]; exact hz6
            have hb7 : Below w5.heap.size w5 w7 := by rw [← hw7]; exact below_drewN hb6 m2
            rw [hw7]
            clear hw7 hz6 hb6
            have hSw := HSV.out w7 hb7
            show _ ∧ _
            refine ⟨hSw, ?_⟩
            repeat (first | (refine wpKind_free (v := ?_) (by rfl) rfl (by rfl) ?_ ?_; rotate_left 1; (focus (intro wy; go_simp; try with_reducible rfl; done)); try simp only [Act.put, List.setIfInBounds_toArray, List.set_cons_zero, List.set_cons_succ]) | (refine wpKind_free (v := ?_) (by rfl) rfl (by rfl) ?_ ?_; rotate_left 1; (focus (intro wy; go_simp; rw [if_pos (show _ ∧ _ from ⟨by omega, by omega⟩)]; (try rw [Int.toNat_natCast]); (first | with_reducible rfl | (simp only [Nat.mul_one]; with_reducible rfl)); done)); try simp only [Act.put, List.setIfInBounds_toArray, List.set_cons_zero, List.set_cons_succ]) | (refine wpKind_held (v := ?_) (by rfl) rfl (by rfl) hSw ?_ ?_; rotate_left 1; (focus (intro wy hSy; obtain ⟨s0, s1, s2, s3, s4, s5⟩ := hSy; go_simp; try with_reducible rfl; done)); try simp only [Act.put, List.setIfInBounds_toArray, List.set_cons_zero, List.set_cons_succ]))
            have x0 : w7.cell? ⟨w5.heap.size, 0, none⟩ = some (.string ⟨#[]⟩) := Lib.cell_of_heap hz7 0
            have x1 : w7.cell? ⟨w5.heap.size, 1, none⟩ = some (.string ⟨#[]⟩) := Lib.cell_of_heap hz7 1
            have x2 : w7.cell? ⟨w5.heap.size, 2, none⟩ = some (.int .i64 0) := Lib.cell_of_heap hz7 2
            have x3 : w7.cell? ⟨w5.heap.size, 3, none⟩ = some (.int .i64 0) := Lib.cell_of_heap hz7 3
            have x4 : w7.cell? ⟨w5.heap.size, 4, none⟩ = some (.int .i64 0) := Lib.cell_of_heap hz7 4
            have f0 : w7.frozen? ⟨w5.heap.size, 0, none⟩ = false := Lib.frozen_of_heap hz7 0
            have f1 : w7.frozen? ⟨w5.heap.size, 1, none⟩ = false := Lib.frozen_of_heap hz7 1
            have f2 : w7.frozen? ⟨w5.heap.size, 2, none⟩ = false := Lib.frozen_of_heap hz7 2
            have f3 : w7.frozen? ⟨w5.heap.size, 3, none⟩ = false := Lib.frozen_of_heap hz7 3
            have f4 : w7.frozen? ⟨w5.heap.size, 4, none⟩ = false := Lib.frozen_of_heap hz7 4
            refine wpKind_serial (by rfl) rfl (fun n3 => ?_)
            have t0 := heap_setCell_same (w7.drewN n3) w5.heap.size 0 _ _ (.string (ba y.name)) hz7
            have t1 := heap_setCell_same _ w5.heap.size 1 _ _ (.string (ba y.route)) t0
            have t2 := heap_setCell_same _ w5.heap.size 2 _ _ (.int .i64 y.start) t1
            have t3 := heap_setCell_same _ w5.heap.size 3 _ _ (.int .i64 y.every) t2
            have t4 := heap_setCell_same _ w5.heap.size 4 _ _ (.int .i64 y.stop) t3
            have HQ := Lib.hid t4
            have HQB := Lib.hid ((((((below_drewN hb7 n3).setCell (p := ⟨w5.heap.size, 0, none⟩) (Nat.le_refl _) (.string (ba y.name))).setCell (p := ⟨w5.heap.size, 1, none⟩) (Nat.le_refl _) (.string (ba y.route))).setCell (p := ⟨w5.heap.size, 2, none⟩) (Nat.le_refl _) (.int .i64 y.start)).setCell (p := ⟨w5.heap.size, 3, none⟩) (Nat.le_refl _) (.int .i64 y.every)).setCell (p := ⟨w5.heap.size, 4, none⟩) (Nat.le_refl _) (.int .i64 y.stop))
            clear t0 t1 t2 t3 t4 hz7 hb7 hSw
            go_wp2_with fail
            clear x0 x1 x2 x3 x4 f0 f1 f2 f3 f4
            show wpKind _ _ _ _ _ _ _ _ _
            refine wpKind_fin ?_
            refine goon_end (by kernel_rfl) (fun n4 => ?_)
            go_wp2_with fail
            go_meet
            case rel => exact ⟨_, rfl, Nat.le_refl _, HQ.out, below_drewN HQB.out n4⟩
        case rest =>
          obtain ⟨q, rfl, hql, hq, hbq⟩ := hcut
          have plt : w4.heap.size < w5.heap.size := (Array.getElem?_eq_some_iff.1 HP5.out).1
          have hPc := (hbq.block _ plt).trans HP5.out
          have y5 : wc.cell? ⟨w4.heap.size, 5, none⟩ = some (.slice A5 x.trips.length k5) := Lib.cell_of_heap hPc 5
          have z0 : wc.cell? ⟨q, 0, none⟩ = some (.string (ba y.name)) := Lib.cell_of_heap hq 0
          have z1 : wc.cell? ⟨q, 1, none⟩ = some (.string (ba y.route)) := Lib.cell_of_heap hq 1
          have z2 : wc.cell? ⟨q, 2, none⟩ = some (.int .i64 y.start) := Lib.cell_of_heap hq 2
          have z3 : wc.cell? ⟨q, 3, none⟩ = some (.int .i64 y.every) := Lib.cell_of_heap hq 3
          have z4 : wc.cell? ⟨q, 4, none⟩ = some (.int .i64 y.stop) := Lib.cell_of_heap hq 4
          have hot : Ow trc 5 wc w3.heap.size 34 (.slice A5 x.trips.length k5) x.trips :=
            Ow.below (Ow.below HO.out.trips HB45.out fun k hk => (HO.out.trips.lt hk).2) hbq fun k hk => Nat.lt_of_lt_of_le (HO.out.trips.lt hk).2 HB45.out.size
          have HOT := Lib.hid hot
          have HBQ := Lib.hid hbq
          have HQ := Lib.hid (And.intro hql hq)
          have HWC := Lib.hid (show w3.heap.size ≤ wc.heap.size from Nat.le_trans HO.out.below.size (Nat.le_trans HB45.out.size hbq.size))
          clear hPc hot hbq hql hq plt
          go_wp2_with (at_builtin; refine wpList_append_sl _ rfl _ _ _ rfl w3.heap.size 34 i0 _ 56 Tryd.underlying26 hi0 hz0 hz1 hz2 (by rfl) (by omega) trc_len trc_one _ _ x.trips [y] rfl rfl (HOT.out.alloc _) (Sl.newl [y] trc_len rfl rfl (by show 1 ≤ maxLen; decide) rfl) (by simp only [maxLen, List.length_cons, List.length_nil]; omega) (by simp only [List.length_cons, List.length_nil]; omega) (by have := HWC.out; simp; omega) ?_; intro v6 w6 hown6 hg6 hmv6; obtain ⟨Aw, nw, cw, ew⟩ := ow_form hown6; subst ew; have happ := app_trip HO.out HP5.out HB45.out HBQ.out hown6 hg6 HB5.out HB3.out.size; obtain ⟨a1, a2, a3, a4, a5⟩ := happ; have y6 := Lib.cell_of_heap a1 5; have g6 := Lib.frozen_of_heap a1 5; have b0 := CELLS.out _ a3; obtain ⟨c0, c1, c2, c3, c4, c5, c6⟩ := b0; have hq7 := a2 q _ _ HQ.out.1 HQ.out.2; have u0 := Lib.cell_of_heap hq7 0; have u1 := Lib.cell_of_heap hq7 1; have u2 := Lib.cell_of_heap hq7 2; have u3 := Lib.cell_of_heap hq7 3; have u4 := Lib.cell_of_heap hq7 4)
          have hat := HA.out.trips y HMEM.out
          have HC := trip_any _ y (HP1.out.below a3) hat.2.2.1 hat.2.2.2.1 hat.2.2.2.2 (HBT.out y HMEM.out)
          refine HC.mono ?_
          rintro e w8 ⟨rfl, hb8⟩
          have H4 := Lib.hid ((hb8.block _ (Array.getElem?_eq_some_iff.1 a4).1).trans a4)
          have H5 := Lib.hid (a5.below_ hb8)
          have H3 := Lib.hid (a3.trans (hb8.mono a3.size))
          clear HC hat a1 a2 a3 a4 a5 y5 y6 g6 c0 c1 c2 c3 c4 c5 c6 hq7 u0 u1 u2 u3 u4 z0 z1 z2 z3 z4 hb8 hown6 hg6 hmv6
          go_wp2_with fail
          go_meet
          case rel => exact ⟨_, 1 + x.stops.length + x.paths.length + x.doors.length + x.routes.length + x.trips.length, tripL y, congrArg (Value.int .i64) (by omega), rfl, H4.out, H5.out, H3.out, HADD.out _ _ _ (.inl ⟨y, HMEM.out, by unfold addT SheetM.d; rw [HRS.out], rfl, rfl⟩)⟩
  case rest =>
    obtain ⟨y, pl, ln, rfl, rfl, hy, hgy, hbc, hadd⟩ := hcut
    obtain ⟨Bs, ds, Bp, dp, Bd, dd, Br, dr, Bt, dt, Bh, dh, fs, fp, fd, fr, ft, fh⟩ := SheetAt.forms hgy
    have hyc : wc.heap[w4.heap.size]? = some (.cells #[.int .i64 y.hor, .slice Bs y.stops.length ds, .slice Bp y.paths.length dp, .slice Bd y.doors.length dd, .slice Br y.routes.length dr, .slice Bt y.trips.length dt, .slice Bh y.hazs.length dh] 29 (0, 0)) := by
      rw [hy]; unfold SheetM.c; rw [fs, fp, fd, fr, ft, fh]
    have VY : y.v = .agg #[.int .i64 y.hor, .slice Bs y.stops.length ds, .slice Bp y.paths.length dp, .slice Bd y.doors.length dd, .slice Br y.routes.length dr, .slice Bt y.trips.length dt, .slice Bh y.hazs.length dh] := by
      unfold SheetM.v; rw [fs, fp, fd, fr, ft, fh]
    have HYC := Lib.hid hyc
    have HBC := Lib.hid hbc
    have HVY := Lib.hid VY
    have HGY := Lib.hid hgy
    have HAD := Lib.hid hadd
    have hle := hadd.le
    clear hy hyc VY fs fp fd fr ft fh hgy hbc hadd
    obtain ⟨c0, c1, c2, c3, c4, c5, c6⟩ := CELLS.out wc HBC.out
    by_cases hc : checkD x.d = 0
    · have hcy : checkD y.d = 0 := HAD.out.check.trans hc
      have HLX := Lib.hid (HV.out ▸ lines_ok wc x (HG1.out.below_ HBC.out) (light_few HL.out) (light_long HL.out) (HT1.out.below HBC.out) (HP1.out.below HBC.out) HM.out hc)
      have HLY := Lib.hid fun wy (hb : Below wc.heap.size wc wy) => HVY.out ▸ lines_ok wy y (HGY.out.below_ hb) HAD.out.few HAD.out.long (HT1.out.below (HBC.out.trans (hb.mono HBC.out.size))) (HP1.out.below (HBC.out.trans (hb.mono HBC.out.size))) HAD.out.names hcy
      have HLL := Lib.hid HAD.out.lines
      have hlx := linesD_len x (light_few HL.out)
      clear hc hcy
      generalize linesD x.d = L at *
      generalize linesD y.d = M at *
      go_wp2_with fail
      refine HLX.out.mono ?_
      rintro e w6 ⟨v, rfl, hov, hb6⟩
      have HB6 := Lib.hid hb6
      have HOV := Lib.hid hov
      have hy6 := (hb6.block _ (Array.getElem?_eq_some_iff.1 HYC.out).1).trans HYC.out
      have y0 := Lib.cell_of_heap hy6 0
      have y1 := Lib.cell_of_heap hy6 1
      have y2 := Lib.cell_of_heap hy6 2
      have y3 := Lib.cell_of_heap hy6 3
      have y4 := Lib.cell_of_heap hy6 4
      have y5 := Lib.cell_of_heap hy6 5
      have y6 := Lib.cell_of_heap hy6 6
      clear hb6 hov hy6 c0 c1 c2 c3 c4 c5 c6
      go_wp2_with fail
      refine (HLY.out w6 HB6.out).mono ?_
      rintro e w7 ⟨v2, rfl, hov2, hb7⟩
      have HB7 := Lib.hid (HB6.out.trans (hb7.mono HB6.out.size))
      have HOV2 := Lib.hid hov2
      have HOV1 := Lib.hid (Ow.below HOV.out hb7 fun k hk => (HOV.out.lt hk).2)
      obtain ⟨D1, e1, g1, _, _⟩ := hov2.shape
      obtain ⟨D2, e2, g2, g3, g4⟩ := HOV1.out.shape
      subst g1 g2
      have hml : M.length = L.length + 1 := by rw [HLL.out]; simp; omega
      have z1 : ((L.length : Int) + 1 == (M.length : Int)) = true := beq_iff_eq.2 (by omega)
      have z2 : ((M.length : Int) == (L.length : Int) + 1) = true := beq_iff_eq.2 (by omega)
      have z3 : ((M.length : Int) != (L.length : Int) + 1) = false := by rw [bne, z2]; rfl
      have z4 : ¬ ((L.length : Int) < (pl : Int)) := by omega
      clear hov2 hb7 y0 y1 y2 y3 y4 y5 y6
      go_wp2_with fail
      have HV1 := Lib.hid (show Sl nc 1 w7 (.slice D2 pl e2) (L.take pl) (fun _ => True) from ((HOV1.out.begin nc_len hle).sl nc_len).mono fun _ _ => trivial)
      have hsl : Sl nc 1 w7 (.slice D2 L.length e2) L (fun _ => True) := (HOV1.out.sl nc_len).mono fun _ _ => trivial
      have r1 : (0 : Int) ≤ (pl : Int) := by omega
      have r2 : (pl : Int) ≤ (L.length : Int) := by omega
      have r3 : (pl : Int) ≤ (e2 : Int) := by omega
      by_cases hcap : e2 = pl
      · have hcap2 := hcap.symm
        subst hcap2
        have HV2 := Lib.hid (show Sl nc 1 w7 (.slice D2 0 0) (L.drop pl) (fun _ => True) by
          have hd0 : L.drop pl = [] := List.drop_eq_nil_of_le (by omega)
          rw [hd0]
          exact ⟨D2, 0, rfl, Nat.le_refl _, Nat.zero_le _, fun h => absurd h (by simp)⟩)
        clear hcap hsl
        refine wp_region_goon (fun _ => True) [4, 6, 7, 11, 12] [] [] [0, 1, 2, 3, 5, 8, 9, 10, 13] (by kernel_rfl) ?_
        refine goon_walk [0, 1, 2, 3, 5, 8, 9, 10] 6 rfl (by kernel_rfl) (by kernel_rfl) (fun w n h => h) ?_
        repeat (first | (refine wpKind_free (v := ?_) (by rfl) rfl (by rfl) ?_ ?_; rotate_left 1; (focus (intro wy; go_simp; try with_reducible rfl; done)); try simp only [Act.put, List.setIfInBounds_toArray, List.set_cons_zero, List.set_cons_succ]))
        refine wpKind_fin ?_
        refine goon_two 4 6 (by kernel_rfl) ?_ ?_
        · skip
          refine hOp_keeps (by rfl) rfl (fun m1 => ?_)
          go_wp2_with fail
          refine (nown_any (w7.drewN m1) _ (L.take pl) (HV1.out.drewN m1) (by rw [List.length_take]; omega)).mono ?_
          rintro e w8 ⟨v3, rfl, ho3, hb8⟩
          have hb8 : Below w7.heap.size w7 w8 := Below.lift (below_drewN (Below.refl _ _) m1) hb8
          obtain ⟨E3, k3a, k3b, ev3⟩ := ow_form ho3
          subst ev3
          go_wp2_with fail
          show _ ∧ _
          refine ⟨trivial, ?_⟩
          refine goon_walk [6, 7, 11, 12, 13] 0 rfl (by kernel_rfl) (by kernel_rfl) (fun w n h => h) ?_
          refine wpKind_keeps (by rfl) rfl (fun m2 => ?_)
          go_wp2_with fail
          generalize hw9 : World.alloc _ (.cells #[.string (ba ln)] 9) = w9
          have HX9 := Lib.hid (show Sl nc 1 w9 (.slice (some ⟨w8.heap.size, 0, none⟩) 1 1) [ln] (fun _ => True) by rw [← hw9]; exact Sl.newl [ln] nc_len rfl rfl (by show 1 ≤ maxLen; decide) rfl)
          have HO3 := Lib.hid (show Ow nc 1 w9 w7.heap.size 9 (.slice E3 k3a k3b) (L.take pl) by rw [← hw9]; exact ((ho3.lower (show w7.heap.size ≤ (w7.drewN m1).heap.size from Nat.le_refl _)).drewN _).alloc _)
          have HB9 := Lib.hid (show Below w7.heap.size w7 w9 by rw [← hw9]; exact (below_drewN hb8 _).alloc (by exact hb8.size) _)
          clear hw9 ho3 hb8
          show _ ∧ _
          refine ⟨trivial, ?_⟩
          refine wpKind_keeps (by rfl) rfl (fun m3 => ?_)
          go_wp2_with (at_builtin; refine wpList_append_sl _ rfl _ _ _ rfl w7.heap.size 9 j0 _ 16 Tryd.underlying22 hj0 hy0 hy1 hy2 (by rfl) (by omega) nc_len nc_one _ _ (L.take pl) [ln] rfl rfl (HO3.out.drewN m3) (HX9.out.drewN m3) (by simp only [maxLen, List.length_take, List.length_cons, List.length_nil]; omega) (by simp only [List.length_take, List.length_cons, List.length_nil]; omega) (by exact HB9.out.size) ?_; intro v10 w10 hown10 hg10 hmv10; obtain ⟨Fw, fw, gw, ew⟩ := ow_form hown10; subst ew)
          have hb10 : Below w7.heap.size w7 w10 := (below_drewN HB9.out m3).grown hg10 HB9.out.size fun k hk => (HO3.out.lt hk).1
          have HO10 := Lib.hid hown10
          have HB10 := Lib.hid hb10
          have HV10 := Lib.hid (HV2.out.below_ hb10)
          clear hown10 hg10 hmv10 hb10
          show _ ∧ _
          refine ⟨trivial, ?_⟩
          refine wpKind_keeps (by rfl) rfl (fun m4 => ?_)
          go_wp2_with (at_builtin; refine wpList_append_sl _ rfl _ _ _ rfl w7.heap.size 9 j0 _ 16 Tryd.underlying22 hj0 hy0 hy1 hy2 (by rfl) (by omega) nc_len nc_one _ _ (L.take pl ++ [ln]) (L.drop pl) rfl rfl (HO10.out.drewN m4) (HV10.out.drewN m4) (by simp only [maxLen, List.length_append, List.length_drop, List.length_take, List.length_cons, List.length_nil]; omega) (by simp only [List.length_append, List.length_drop, List.length_take, List.length_cons, List.length_nil]; omega) (by exact HB10.out.size) ?_; intro v11 w11 hown11 hg11 hmv11; obtain ⟨Gw, fw2, gw2, ew2⟩ := ow_form hown11; subst ew2)
          have hb11 : Below w7.heap.size w7 w11 := (below_drewN HB10.out m4).grown hg11 HB10.out.size fun k hk => (HO10.out.lt hk).1
          have hs1 : Sl nc 1 w11 (.slice D1 (L.length + 1) e1) M (fun _ => True) := hml ▸ (((Ow.below HOV2.out hb11 fun k hk => (HOV2.out.lt hk).2).sl nc_len).mono fun _ _ => trivial)
          rw [← HLL.out] at hown11
          have hs2 : Sl nc 1 w11 (.slice Gw fw2 gw2) M (fun _ => True) := (hown11.sl nc_len).mono fun _ _ => trivial
          have HB11 := Lib.hid hb11
          have HSA := Lib.hid fun m => sameStr_self _ _ M (w11.drewN m) (hs1.drewN m) (hs2.drewN m) (by omega)
          clear hown11 hg11 hmv11 hb11 hs1 hs2
          show _ ∧ _
          refine ⟨trivial, ?_⟩
          refine wpKind_keeps (by rfl) rfl (fun m5 => ?_)
          go_wp2_with fail
          refine (HSA.out m5).mono ?_
          rintro e w12 ⟨rfl, m6, rfl⟩
          go_wp2_with fail
          show _ ∧ _
          refine ⟨trivial, ?_⟩
          repeat (first | (refine wpKind_free (v := ?_) (by rfl) rfl (by rfl) ?_ ?_; rotate_left 1; (focus (intro wy; go_simp; try with_reducible rfl; done)); try simp only [Act.put, List.setIfInBounds_toArray, List.set_cons_zero, List.set_cons_succ]))
          refine wpKind_fin ?_
          refine goon_end (by kernel_rfl) (fun m7 => ?_)
          go_wp2_with fail
          go_ret
          exact ⟨rfl, HB1.out.trans ((HBC.out.trans ((HB7.out.trans ((below_drewN (below_drewN HB11.out _) _).mono HB7.out.size)).mono HBC.out.size)).mono HB1.out.size)⟩
        · skip
          refine hOp_keeps (by rfl) rfl (fun m1 => ?_)
          go_wp2_with fail
          generalize hw8 : World.alloc _ (.cells #[.string (ba ln)] 9) = w8
          have hx8 : Sl nc 1 w8 (.slice (some ⟨w7.heap.size, 0, none⟩) 1 1) [ln] (fun _ => True) := by rw [← hw8]; exact Sl.newl [ln] nc_len rfl rfl (by show 1 ≤ maxLen; decide) rfl
          have hb8 : Below w7.heap.size w7 w8 := by rw [← hw8]; exact (below_drewN (Below.refl _ _) _).alloc (by exact Nat.le_refl _) _
          have hv8 := HV1.out.below_ hb8
          clear hw8
          show _ ∧ _
          refine ⟨trivial, ?_⟩
          refine goon_walk [4, 7, 11, 12, 13] 0 rfl (by kernel_rfl) (by kernel_rfl) (fun w n h => h) ?_
          refine wpKind_keeps (by rfl) rfl (fun m2 => ?_)
          go_wp2_with fail
          refine (nown_any (w8.drewN m2) _ (L.take pl) (hv8.drewN m2) (by rw [List.length_take]; omega)).mono ?_
          rintro e w9 ⟨v3, rfl, ho3, hb9⟩
          have hb9 : Below w8.heap.size w8 w9 := Below.lift (below_drewN (Below.refl _ _) m2) hb9
          obtain ⟨E3, k3a, k3b, ev3⟩ := ow_form ho3
          subst ev3
          have HX9 := Lib.hid (hx8.below_ hb9)
          have HO3 := Lib.hid (ho3.lower (show w7.heap.size ≤ (w8.drewN m2).heap.size from hb8.size))
          have HB9 := Lib.hid (hb8.trans (hb9.mono hb8.size))
          clear ho3 hb9 hb8 hx8 hv8
          go_wp2_with fail
          show _ ∧ _
          refine ⟨trivial, ?_⟩
          refine wpKind_keeps (by rfl) rfl (fun m3 => ?_)
          go_wp2_with (at_builtin; refine wpList_append_sl _ rfl _ _ _ rfl w7.heap.size 9 j0 _ 16 Tryd.underlying22 hj0 hy0 hy1 hy2 (by rfl) (by omega) nc_len nc_one _ _ (L.take pl) [ln] rfl rfl (HO3.out.drewN m3) (HX9.out.drewN m3) (by simp only [maxLen, List.length_take, List.length_cons, List.length_nil]; omega) (by simp only [List.length_take, List.length_cons, List.length_nil]; omega) (by exact HB9.out.size) ?_; intro v10 w10 hown10 hg10 hmv10; obtain ⟨Fw, fw, gw, ew⟩ := ow_form hown10; subst ew)
          have hb10 : Below w7.heap.size w7 w10 := (below_drewN HB9.out m3).grown hg10 HB9.out.size fun k hk => (HO3.out.lt hk).1
          have HO10 := Lib.hid hown10
          have HB10 := Lib.hid hb10
          have HV10 := Lib.hid (HV2.out.below_ hb10)
          clear hown10 hg10 hmv10 hb10
          show _ ∧ _
          refine ⟨trivial, ?_⟩
          refine wpKind_keeps (by rfl) rfl (fun m4 => ?_)
          go_wp2_with (at_builtin; refine wpList_append_sl _ rfl _ _ _ rfl w7.heap.size 9 j0 _ 16 Tryd.underlying22 hj0 hy0 hy1 hy2 (by rfl) (by omega) nc_len nc_one _ _ (L.take pl ++ [ln]) (L.drop pl) rfl rfl (HO10.out.drewN m4) (HV10.out.drewN m4) (by simp only [maxLen, List.length_append, List.length_drop, List.length_take, List.length_cons, List.length_nil]; omega) (by simp only [List.length_append, List.length_drop, List.length_take, List.length_cons, List.length_nil]; omega) (by exact HB10.out.size) ?_; intro v11 w11 hown11 hg11 hmv11; obtain ⟨Gw, fw2, gw2, ew2⟩ := ow_form hown11; subst ew2)
          have hb11 : Below w7.heap.size w7 w11 := (below_drewN HB10.out m4).grown hg11 HB10.out.size fun k hk => (HO10.out.lt hk).1
          have hs1 : Sl nc 1 w11 (.slice D1 (L.length + 1) e1) M (fun _ => True) := hml ▸ (((Ow.below HOV2.out hb11 fun k hk => (HOV2.out.lt hk).2).sl nc_len).mono fun _ _ => trivial)
          rw [← HLL.out] at hown11
          have hs2 : Sl nc 1 w11 (.slice Gw fw2 gw2) M (fun _ => True) := (hown11.sl nc_len).mono fun _ _ => trivial
          have HB11 := Lib.hid hb11
          have HSA := Lib.hid fun m => sameStr_self _ _ M (w11.drewN m) (hs1.drewN m) (hs2.drewN m) (by omega)
          clear hown11 hg11 hmv11 hb11 hs1 hs2
          show _ ∧ _
          refine ⟨trivial, ?_⟩
          refine wpKind_keeps (by rfl) rfl (fun m5 => ?_)
          go_wp2_with fail
          refine (HSA.out m5).mono ?_
          rintro e w12 ⟨rfl, m6, rfl⟩
          go_wp2_with fail
          show _ ∧ _
          refine ⟨trivial, ?_⟩
          repeat (first | (refine wpKind_free (v := ?_) (by rfl) rfl (by rfl) ?_ ?_; rotate_left 1; (focus (intro wy; go_simp; try with_reducible rfl; done)); try simp only [Act.put, List.setIfInBounds_toArray, List.set_cons_zero, List.set_cons_succ]))
          refine wpKind_fin ?_
          refine goon_end (by kernel_rfl) (fun m7 => ?_)
          go_wp2_with fail
          go_ret
          exact ⟨rfl, HB1.out.trans ((HBC.out.trans ((HB7.out.trans ((below_drewN (below_drewN HB11.out _) _).mono HB7.out.size)).mono HBC.out.size)).mono HB1.out.size)⟩
      · have hcap2 : ¬ (pl = e2) := fun h => hcap h.symm
        have HV2 := Lib.hid (show Sl nc 1 w7 (.slice (Option.map (fun x => x.add pl) D2) (L.length - pl) (e2 - pl)) (L.drop pl) (fun _ => True) by
          have := Sl.cut hsl (m := L.length - pl) hle (Nat.le_refl _) rfl
          rw [if_neg hcap, Nat.mul_one, List.take_length] at this
          exact this)
        clear hsl
        refine wp_region_goon (fun _ => True) [4, 6, 7, 11, 12] [] [] [0, 1, 2, 3, 5, 8, 9, 10, 13] (by kernel_rfl) ?_
        refine goon_walk [0, 1, 2, 3, 5, 8, 9, 10] 6 rfl (by kernel_rfl) (by kernel_rfl) (fun w n h => h) ?_
        repeat (first | (refine wpKind_free (v := ?_) (by rfl) rfl (by rfl) ?_ ?_; rotate_left 1; (focus (intro wy; go_simp; try with_reducible rfl; done)); try simp only [Act.put, List.setIfInBounds_toArray, List.set_cons_zero, List.set_cons_succ]))
        refine wpKind_fin ?_
        refine goon_two 4 6 (by kernel_rfl) ?_ ?_
        · skip
          refine hOp_keeps (by rfl) rfl (fun m1 => ?_)
          go_wp2_with fail
          refine (nown_any (w7.drewN m1) _ (L.take pl) (HV1.out.drewN m1) (by rw [List.length_take]; omega)).mono ?_
          rintro e w8 ⟨v3, rfl, ho3, hb8⟩
          have hb8 : Below w7.heap.size w7 w8 := Below.lift (below_drewN (Below.refl _ _) m1) hb8
          obtain ⟨E3, k3a, k3b, ev3⟩ := ow_form ho3
          subst ev3
          go_wp2_with fail
          show _ ∧ _
          refine ⟨trivial, ?_⟩
          refine goon_walk [6, 7, 11, 12, 13] 0 rfl (by kernel_rfl) (by kernel_rfl) (fun w n h => h) ?_
          refine wpKind_keeps (by rfl) rfl (fun m2 => ?_)
          go_wp2_with fail
          generalize hw9 : World.alloc _ (.cells #[.string (ba ln)] 9) = w9
          have HX9 := Lib.hid (show Sl nc 1 w9 (.slice (some ⟨w8.heap.size, 0, none⟩) 1 1) [ln] (fun _ => True) by rw [← hw9]; exact Sl.newl [ln] nc_len rfl rfl (by show 1 ≤ maxLen; decide) rfl)
          have HO3 := Lib.hid (show Ow nc 1 w9 w7.heap.size 9 (.slice E3 k3a k3b) (L.take pl) by rw [← hw9]; exact ((ho3.lower (show w7.heap.size ≤ (w7.drewN m1).heap.size from Nat.le_refl _)).drewN _).alloc _)
          have HB9 := Lib.hid (show Below w7.heap.size w7 w9 by rw [← hw9]; exact (below_drewN hb8 _).alloc (by exact hb8.size) _)
          clear hw9 ho3 hb8
          show _ ∧ _
          refine ⟨trivial, ?_⟩
          refine wpKind_keeps (by rfl) rfl (fun m3 => ?_)
          go_wp2_with (at_builtin; refine wpList_append_sl _ rfl _ _ _ rfl w7.heap.size 9 j0 _ 16 Tryd.underlying22 hj0 hy0 hy1 hy2 (by rfl) (by omega) nc_len nc_one _ _ (L.take pl) [ln] rfl rfl (HO3.out.drewN m3) (HX9.out.drewN m3) (by simp only [maxLen, List.length_take, List.length_cons, List.length_nil]; omega) (by simp only [List.length_take, List.length_cons, List.length_nil]; omega) (by exact HB9.out.size) ?_; intro v10 w10 hown10 hg10 hmv10; obtain ⟨Fw, fw, gw, ew⟩ := ow_form hown10; subst ew)
          have hb10 : Below w7.heap.size w7 w10 := (below_drewN HB9.out m3).grown hg10 HB9.out.size fun k hk => (HO3.out.lt hk).1
          have HO10 := Lib.hid hown10
          have HB10 := Lib.hid hb10
          have HV10 := Lib.hid (HV2.out.below_ hb10)
          clear hown10 hg10 hmv10 hb10
          show _ ∧ _
          refine ⟨trivial, ?_⟩
          refine wpKind_keeps (by rfl) rfl (fun m4 => ?_)
          go_wp2_with (at_builtin; refine wpList_append_sl _ rfl _ _ _ rfl w7.heap.size 9 j0 _ 16 Tryd.underlying22 hj0 hy0 hy1 hy2 (by rfl) (by omega) nc_len nc_one _ _ (L.take pl ++ [ln]) (L.drop pl) rfl rfl (HO10.out.drewN m4) (HV10.out.drewN m4) (by simp only [maxLen, List.length_append, List.length_drop, List.length_take, List.length_cons, List.length_nil]; omega) (by simp only [List.length_append, List.length_drop, List.length_take, List.length_cons, List.length_nil]; omega) (by exact HB10.out.size) ?_; intro v11 w11 hown11 hg11 hmv11; obtain ⟨Gw, fw2, gw2, ew2⟩ := ow_form hown11; subst ew2)
          have hb11 : Below w7.heap.size w7 w11 := (below_drewN HB10.out m4).grown hg11 HB10.out.size fun k hk => (HO10.out.lt hk).1
          have hs1 : Sl nc 1 w11 (.slice D1 (L.length + 1) e1) M (fun _ => True) := hml ▸ (((Ow.below HOV2.out hb11 fun k hk => (HOV2.out.lt hk).2).sl nc_len).mono fun _ _ => trivial)
          rw [← HLL.out] at hown11
          have hs2 : Sl nc 1 w11 (.slice Gw fw2 gw2) M (fun _ => True) := (hown11.sl nc_len).mono fun _ _ => trivial
          have HB11 := Lib.hid hb11
          have HSA := Lib.hid fun m => sameStr_self _ _ M (w11.drewN m) (hs1.drewN m) (hs2.drewN m) (by omega)
          clear hown11 hg11 hmv11 hb11 hs1 hs2
          show _ ∧ _
          refine ⟨trivial, ?_⟩
          refine wpKind_keeps (by rfl) rfl (fun m5 => ?_)
          go_wp2_with fail
          refine (HSA.out m5).mono ?_
          rintro e w12 ⟨rfl, m6, rfl⟩
          go_wp2_with fail
          show _ ∧ _
          refine ⟨trivial, ?_⟩
          repeat (first | (refine wpKind_free (v := ?_) (by rfl) rfl (by rfl) ?_ ?_; rotate_left 1; (focus (intro wy; go_simp; try with_reducible rfl; done)); try simp only [Act.put, List.setIfInBounds_toArray, List.set_cons_zero, List.set_cons_succ]))
          refine wpKind_fin ?_
          refine goon_end (by kernel_rfl) (fun m7 => ?_)
          go_wp2_with fail
          go_ret
          exact ⟨rfl, HB1.out.trans ((HBC.out.trans ((HB7.out.trans ((below_drewN (below_drewN HB11.out _) _).mono HB7.out.size)).mono HBC.out.size)).mono HB1.out.size)⟩
        · skip
          refine hOp_keeps (by rfl) rfl (fun m1 => ?_)
          go_wp2_with fail
          generalize hw8 : World.alloc _ (.cells #[.string (ba ln)] 9) = w8
          have hx8 : Sl nc 1 w8 (.slice (some ⟨w7.heap.size, 0, none⟩) 1 1) [ln] (fun _ => True) := by rw [← hw8]; exact Sl.newl [ln] nc_len rfl rfl (by show 1 ≤ maxLen; decide) rfl
          have hb8 : Below w7.heap.size w7 w8 := by rw [← hw8]; exact (below_drewN (Below.refl _ _) _).alloc (by exact Nat.le_refl _) _
          have hv8 := HV1.out.below_ hb8
          clear hw8
          show _ ∧ _
          refine ⟨trivial, ?_⟩
          refine goon_walk [4, 7, 11, 12, 13] 0 rfl (by kernel_rfl) (by kernel_rfl) (fun w n h => h) ?_
          refine wpKind_keeps (by rfl) rfl (fun m2 => ?_)
          go_wp2_with fail
          refine (nown_any (w8.drewN m2) _ (L.take pl) (hv8.drewN m2) (by rw [List.length_take]; omega)).mono ?_
          rintro e w9 ⟨v3, rfl, ho3, hb9⟩
          have hb9 : Below w8.heap.size w8 w9 := Below.lift (below_drewN (Below.refl _ _) m2) hb9
          obtain ⟨E3, k3a, k3b, ev3⟩ := ow_form ho3
          subst ev3
          have HX9 := Lib.hid (hx8.below_ hb9)
          have HO3 := Lib.hid (ho3.lower (show w7.heap.size ≤ (w8.drewN m2).heap.size from hb8.size))
          have HB9 := Lib.hid (hb8.trans (hb9.mono hb8.size))
          clear ho3 hb9 hb8 hx8 hv8
          go_wp2_with fail
          show _ ∧ _
          refine ⟨trivial, ?_⟩
          refine wpKind_keeps (by rfl) rfl (fun m3 => ?_)
          go_wp2_with (at_builtin; refine wpList_append_sl _ rfl _ _ _ rfl w7.heap.size 9 j0 _ 16 Tryd.underlying22 hj0 hy0 hy1 hy2 (by rfl) (by omega) nc_len nc_one _ _ (L.take pl) [ln] rfl rfl (HO3.out.drewN m3) (HX9.out.drewN m3) (by simp only [maxLen, List.length_take, List.length_cons, List.length_nil]; omega) (by simp only [List.length_take, List.length_cons, List.length_nil]; omega) (by exact HB9.out.size) ?_; intro v10 w10 hown10 hg10 hmv10; obtain ⟨Fw, fw, gw, ew⟩ := ow_form hown10; subst ew)
          have hb10 : Below w7.heap.size w7 w10 := (below_drewN HB9.out m3).grown hg10 HB9.out.size fun k hk => (HO3.out.lt hk).1
          have HO10 := Lib.hid hown10
          have HB10 := Lib.hid hb10
          have HV10 := Lib.hid (HV2.out.below_ hb10)
          clear hown10 hg10 hmv10 hb10
          show _ ∧ _
          refine ⟨trivial, ?_⟩
          refine wpKind_keeps (by rfl) rfl (fun m4 => ?_)
          go_wp2_with (at_builtin; refine wpList_append_sl _ rfl _ _ _ rfl w7.heap.size 9 j0 _ 16 Tryd.underlying22 hj0 hy0 hy1 hy2 (by rfl) (by omega) nc_len nc_one _ _ (L.take pl ++ [ln]) (L.drop pl) rfl rfl (HO10.out.drewN m4) (HV10.out.drewN m4) (by simp only [maxLen, List.length_append, List.length_drop, List.length_take, List.length_cons, List.length_nil]; omega) (by simp only [List.length_append, List.length_drop, List.length_take, List.length_cons, List.length_nil]; omega) (by exact HB10.out.size) ?_; intro v11 w11 hown11 hg11 hmv11; obtain ⟨Gw, fw2, gw2, ew2⟩ := ow_form hown11; subst ew2)
          have hb11 : Below w7.heap.size w7 w11 := (below_drewN HB10.out m4).grown hg11 HB10.out.size fun k hk => (HO10.out.lt hk).1
          have hs1 : Sl nc 1 w11 (.slice D1 (L.length + 1) e1) M (fun _ => True) := hml ▸ (((Ow.below HOV2.out hb11 fun k hk => (HOV2.out.lt hk).2).sl nc_len).mono fun _ _ => trivial)
          rw [← HLL.out] at hown11
          have hs2 : Sl nc 1 w11 (.slice Gw fw2 gw2) M (fun _ => True) := (hown11.sl nc_len).mono fun _ _ => trivial
          have HB11 := Lib.hid hb11
          have HSA := Lib.hid fun m => sameStr_self _ _ M (w11.drewN m) (hs1.drewN m) (hs2.drewN m) (by omega)
          clear hown11 hg11 hmv11 hb11 hs1 hs2
          show _ ∧ _
          refine ⟨trivial, ?_⟩
          refine wpKind_keeps (by rfl) rfl (fun m5 => ?_)
          go_wp2_with fail
          refine (HSA.out m5).mono ?_
          rintro e w12 ⟨rfl, m6, rfl⟩
          go_wp2_with fail
          show _ ∧ _
          refine ⟨trivial, ?_⟩
          repeat (first | (refine wpKind_free (v := ?_) (by rfl) rfl (by rfl) ?_ ?_; rotate_left 1; (focus (intro wy; go_simp; try with_reducible rfl; done)); try simp only [Act.put, List.setIfInBounds_toArray, List.set_cons_zero, List.set_cons_succ]))
          refine wpKind_fin ?_
          refine goon_end (by kernel_rfl) (fun m7 => ?_)
          go_wp2_with fail
          go_ret
          exact ⟨rfl, HB1.out.trans ((HBC.out.trans ((HB7.out.trans ((below_drewN (below_drewN HB11.out _) _).mono HB7.out.size)).mono HBC.out.size)).mono HB1.out.size)⟩
    · have hcy : checkD y.d = checkD x.d := HAD.out.check
      have HLX := Lib.hid (HV.out ▸ lines_bad wc x (HG1.out.below_ HBC.out) (light_few HL.out) (light_long HL.out) (HT1.out.below HBC.out) HM.out hc)
      have HLY := Lib.hid fun wy (hb : Below wc.heap.size wc wy) => HVY.out ▸ lines_bad wy y (HGY.out.below_ hb) HAD.out.few HAD.out.long (HT1.out.below (HBC.out.trans (hb.mono HBC.out.size))) HAD.out.names (by rw [hcy]; exact hc)
      rw [hcy] at HLY
      generalize checkD x.d = cq at *
      have hq : (cq == 0) = false := beq_eq_false_iff_ne.2 hc
      have hq2 : (cq != 0) = true := by rw [bne, hq]; rfl
      have hq3 : (cq != cq) = false := by rw [bne, beq_self_eq_true]; rfl
      go_wp2_with fail
      refine HLX.out.mono ?_
      rintro e w6 ⟨rfl, hb6⟩
      have HB6 := Lib.hid hb6
      have hy6 := (hb6.block _ (Array.getElem?_eq_some_iff.1 HYC.out).1).trans HYC.out
      have y0 := Lib.cell_of_heap hy6 0
      have y1 := Lib.cell_of_heap hy6 1
      have y2 := Lib.cell_of_heap hy6 2
      have y3 := Lib.cell_of_heap hy6 3
      have y4 := Lib.cell_of_heap hy6 4
      have y5 := Lib.cell_of_heap hy6 5
      have y6 := Lib.cell_of_heap hy6 6
      clear hb6 hy6 c0 c1 c2 c3 c4 c5 c6
      go_wp2_with fail
      refine (HLY.out w6 HB6.out).mono ?_
      rintro e w7 ⟨rfl, hb7⟩
      have HB7 := Lib.hid (HB6.out.trans (hb7.mono HB6.out.size))
      clear hb7 y0 y1 y2 y3 y4 y5 y6
      go_wp2_with fail
      go_ret
      exact ⟨rfl, HB1.out.trans ((HBC.out.trans (HB7.out.mono HBC.out.size)).mono HB1.out.size)⟩
end Go.Proofs.YtmihinhbcncbfaaDoor
