/- The law ShowBack: its walk. Printed by wip/bin/genqv.py. -/
import Derived.Test.YtmihinhbcncbfaaGreatDoorQk
import Derived.Test.YtmihinhbcncbfaaGreatDoorQs
import Derived.Test.YtmihinhbcncbfaaGreatDoorTe
import Derived.Test.YtmihinhbcncbfaaGreatDoorZf
import Derived.Test.YtmihinhbcncbfaaGreatDoorZs
import Derived.Test.YtmihinhbcncbfaaGreatDoorVv
namespace Go.Proofs.YtmihinhbcncbfaaGreatDoor
open Go.RowKit
def tV (d : SheetD) : List UInt8 := if checkD d = 0 then textL (linesD d) else []
theorem text_comb (w : World) (x : SheetM) {P : Nat → Prop} (hg : x.Good w P) (hl : lightD x.d 60 = true) (hT : Tabs w) (hP : Pow w) (hm : ∀ s ∈ namesD x.d, s.length ≤ maxLen) :
    Calls Tryz.prog 9 #[x.v] w fun e w' => e = .returned (.tuple #[.string (ba (tV x.d)), .int .i64 (checkD x.d)]) ∧ Below w.heap.size w w' := by
  unfold tV
  by_cases hc : checkD x.d = 0
  · rw [if_pos hc, hc]; exact text_ok w x hg (light_few hl) (light_long hl) hT hP hm hc
  · rw [if_neg hc]; exact text_bad w x hg (light_few hl) (light_long hl) hT hm hc
/-- Two sheets that may be, of one text, are the same. -/
theorem text_same {x y : SheetD} (hx : checkD x = 0) (hy : checkD y = 0) (hs : (tV x).length ≤ 65536) : tV x = tV y ↔ x = y := by
  refine ⟨fun h => ?_, fun h => by rw [h]⟩
  have e1 : tV x = textL (linesD x) := by unfold tV; rw [if_pos hx]
  have e2 : tV y = textL (linesD y) := by unfold tV; rw [if_pos hy]
  have h1 := read_back x (ba (tV x)) hx (by rw [← e1]; rfl) (by rw [ba_size]; exact hs)
  have h2 := read_back y (ba (tV x)) hy (by rw [← e2, ← h]; rfl) (by rw [ba_size]; exact hs)
  rw [h1] at h2
  exact congrArg Prod.fst h2
theorem light_small {x : SheetM} (h : lightD x.d 60 = true) : x.Small := by
  obtain ⟨⟨h1, h2, h3, h4, h5, h6⟩, h7⟩ := light_parts h
  exact ⟨by omega, by omega, by omega, by omega, by omega, by omega, fun r hr => by obtain ⟨a, b, c⟩ := h7 r hr; exact ⟨by omega, by omega, by omega⟩⟩
/-- How many there are is told by the data. -/
theorem small_d {x z : SheetM} (h : z.d = x.d) (hs : x.Small) : z.Small := by
  have e1 : z.stops = x.stops := congrArg SheetD.stops h
  have e2 : z.paths = x.paths := congrArg SheetD.paths h
  have e3 : z.doors = x.doors := congrArg SheetD.doors h
  have e4 : z.routes.map RouteM.d = x.routes.map RouteM.d := congrArg SheetD.routes h
  have e5 : z.trips = x.trips := congrArg SheetD.trips h
  have e6 : z.hazs = x.hazs := congrArg SheetD.hazs h
  have e7 : z.routes.length = x.routes.length := by have := congrArg List.length e4; rwa [List.length_map, List.length_map] at this
  refine ⟨by rw [e1]; exact hs.st, by rw [e2]; exact hs.pa, by rw [e3]; exact hs.dr, by rw [e5]; exact hs.tr, by rw [e6]; exact hs.hz, by rw [e7]; exact hs.ro, fun r hr => ?_⟩
  have hm : r.d ∈ x.routes.map RouteM.d := by rw [← e4]; exact List.mem_map_of_mem hr
  obtain ⟨q, hq, e⟩ := List.mem_map.1 hm
  have hq2 := hs.each q hq
  exact ⟨by rw [← show q.stops = r.stops from congrArg RouteD.stops e]; exact hq2.st, by rw [← show q.rides = r.rides from congrArg RouteD.rides e]; exact hq2.ri, by rw [← show q.stays = r.stays from congrArg RouteD.stays e]; exact hq2.sy⟩
set_option maxHeartbeats 16000000 in
set_option maxRecDepth 100000 in
theorem sback_any (w : World) (x y : SheetM) (gx : x.Good w (fun _ => True)) (ax : x.Arg w) (gy : y.Good w (fun _ => True)) (ay : y.Arg w) (hT : Tabs w) (hP : Pow w) :
    Calls Tryz.prog 4 #[x.v, y.v] w fun e w' => e = .returned (.bool true) ∧ Below w.heap.size w w' := by
  have HM := Lib.hid (arg_names ax)
  have HN := Lib.hid (arg_names ay)
  have HG := Lib.hid gx
  have HH := Lib.hid gy
  have HT := Lib.hid hT
  have HP := Lib.hid hP
  obtain ⟨Xs, xs, Xp, xp, Xd, xd, Xr, xr, Xt, xt, Xh, xh, exs, exp, exd, exr, ext, exh⟩ := SheetAt.forms gx
  obtain ⟨Ys, ys, Yp, yp, Yd, yd, Yr, yr, Yt, yt, Yh, yh, eys, eyp, eyd, eyr, eyt, eyh⟩ := SheetAt.forms gy
  have V : x.v = .agg #[.int .i64 x.hor, .slice Xs x.stops.length xs, .slice Xp x.paths.length xp, .slice Xd x.doors.length xd, .slice Xr x.routes.length xr, .slice Xt x.trips.length xt, .slice Xh x.hazs.length xh] := by
    unfold SheetM.v; rw [exs, exp, exd, exr, ext, exh]
  have U : y.v = .agg #[.int .i64 y.hor, .slice Ys y.stops.length ys, .slice Yp y.paths.length yp, .slice Yd y.doors.length yd, .slice Yr y.routes.length yr, .slice Yt y.trips.length yt, .slice Yh y.hazs.length yh] := by
    unfold SheetM.v; rw [eys, eyp, eyd, eyr, eyt, eyh]
  have HV := Lib.hid V
  have HU := Lib.hid U
  rw [V, U]
  clear gx ax gy ay hT hP exs exp exd exr ext exh eys eyp eyd eyr eyt eyh V U
  go_enter Tryz.func4, Tryz.ntmps4
  go_upto_region 1 with fail
  obtain ⟨w1, hw1⟩ : ∃ w1, (w.alloc (.cells #[.int .i64 x.hor, .slice Xs x.stops.length xs, .slice Xp x.paths.length xp, .slice Xd x.doors.length xd, .slice Xr x.routes.length xr, .slice Xt x.trips.length xt, .slice Xh x.hazs.length xh] 29)).alloc (.cells #[.int .i64 y.hor, .slice Ys y.stops.length ys, .slice Yp y.paths.length yp, .slice Yd y.doors.length yd, .slice Yr y.routes.length yr, .slice Yt y.trips.length yt, .slice Yh y.hazs.length yh] 29) = w1 := ⟨_, rfl⟩
  have hb1 : Below w.heap.size w w1 := by rw [← hw1]; exact ((Below.refl _ _).alloc (Nat.le_refl _) _).alloc (by simp) _
  have hz1 : w1.heap.size = w.heap.size + 2 := by rw [← hw1]; simp
  have hA : w1.heap[w.heap.size]? = some (.cells #[.int .i64 x.hor, .slice Xs x.stops.length xs, .slice Xp x.paths.length xp, .slice Xd x.doors.length xd, .slice Xr x.routes.length xr, .slice Xt x.trips.length xt, .slice Xh x.hazs.length xh] 29 (0, 0)) := by rw [← hw1, Below.heap_alloc _ _ _ (by simp)]; exact heap_alloc_new _ _
  have hB : w1.heap[w.heap.size + 1]? = some (.cells #[.int .i64 y.hor, .slice Ys y.stops.length ys, .slice Yp y.paths.length yp, .slice Yd y.doors.length yd, .slice Yr y.routes.length yr, .slice Yt y.trips.length yt, .slice Yh y.hazs.length yh] 29 (0, 0)) := by
    rw [← hw1]
    have h := heap_alloc_new (w.alloc (.cells #[.int .i64 x.hor, .slice Xs x.stops.length xs, .slice Xp x.paths.length xp, .slice Xd x.doors.length xd, .slice Xr x.routes.length xr, .slice Xt x.trips.length xt, .slice Xh x.hazs.length xh] 29)) (.cells #[.int .i64 y.hor, .slice Ys y.stops.length ys, .slice Yp y.paths.length yp, .slice Yd y.doors.length yd, .slice Yr y.routes.length yr, .slice Yt y.trips.length yt, .slice Yh y.hazs.length yh] 29)
    rw [show (w.alloc (.cells #[.int .i64 x.hor, .slice Xs x.stops.length xs, .slice Xp x.paths.length xp, .slice Xd x.doors.length xd, .slice Xr x.routes.length xr, .slice Xt x.trips.length xt, .slice Xh x.hazs.length xh] 29)).heap.size = w.heap.size + 1 by simp] at h
    exact h
  have CX := Lib.hid (fun (wy : World) (h : Below w1.heap.size w1 wy) => (show wy.cell? ⟨w.heap.size, 0, none⟩ = some (.int .i64 x.hor) ∧ wy.cell? ⟨w.heap.size, 1, none⟩ = some (.slice Xs x.stops.length xs) ∧ wy.cell? ⟨w.heap.size, 2, none⟩ = some (.slice Xp x.paths.length xp) ∧ wy.cell? ⟨w.heap.size, 3, none⟩ = some (.slice Xd x.doors.length xd) ∧ wy.cell? ⟨w.heap.size, 4, none⟩ = some (.slice Xr x.routes.length xr) ∧ wy.cell? ⟨w.heap.size, 5, none⟩ = some (.slice Xt x.trips.length xt) ∧ wy.cell? ⟨w.heap.size, 6, none⟩ = some (.slice Xh x.hazs.length xh) from ⟨(h.cell (p := ⟨w.heap.size, 0, none⟩) (by show w.heap.size < _; omega)).trans (Lib.cell_of_heap hA 0), (h.cell (p := ⟨w.heap.size, 1, none⟩) (by show w.heap.size < _; omega)).trans (Lib.cell_of_heap hA 1), (h.cell (p := ⟨w.heap.size, 2, none⟩) (by show w.heap.size < _; omega)).trans (Lib.cell_of_heap hA 2), (h.cell (p := ⟨w.heap.size, 3, none⟩) (by show w.heap.size < _; omega)).trans (Lib.cell_of_heap hA 3), (h.cell (p := ⟨w.heap.size, 4, none⟩) (by show w.heap.size < _; omega)).trans (Lib.cell_of_heap hA 4), (h.cell (p := ⟨w.heap.size, 5, none⟩) (by show w.heap.size < _; omega)).trans (Lib.cell_of_heap hA 5), (h.cell (p := ⟨w.heap.size, 6, none⟩) (by show w.heap.size < _; omega)).trans (Lib.cell_of_heap hA 6)⟩))
  have CY := Lib.hid (fun (wy : World) (h : Below w1.heap.size w1 wy) => (show wy.cell? ⟨w.heap.size + 1, 0, none⟩ = some (.int .i64 y.hor) ∧ wy.cell? ⟨w.heap.size + 1, 1, none⟩ = some (.slice Ys y.stops.length ys) ∧ wy.cell? ⟨w.heap.size + 1, 2, none⟩ = some (.slice Yp y.paths.length yp) ∧ wy.cell? ⟨w.heap.size + 1, 3, none⟩ = some (.slice Yd y.doors.length yd) ∧ wy.cell? ⟨w.heap.size + 1, 4, none⟩ = some (.slice Yr y.routes.length yr) ∧ wy.cell? ⟨w.heap.size + 1, 5, none⟩ = some (.slice Yt y.trips.length yt) ∧ wy.cell? ⟨w.heap.size + 1, 6, none⟩ = some (.slice Yh y.hazs.length yh) from ⟨(h.cell (p := ⟨w.heap.size + 1, 0, none⟩) (by show w.heap.size + 1 < _; omega)).trans (Lib.cell_of_heap hB 0), (h.cell (p := ⟨w.heap.size + 1, 1, none⟩) (by show w.heap.size + 1 < _; omega)).trans (Lib.cell_of_heap hB 1), (h.cell (p := ⟨w.heap.size + 1, 2, none⟩) (by show w.heap.size + 1 < _; omega)).trans (Lib.cell_of_heap hB 2), (h.cell (p := ⟨w.heap.size + 1, 3, none⟩) (by show w.heap.size + 1 < _; omega)).trans (Lib.cell_of_heap hB 3), (h.cell (p := ⟨w.heap.size + 1, 4, none⟩) (by show w.heap.size + 1 < _; omega)).trans (Lib.cell_of_heap hB 4), (h.cell (p := ⟨w.heap.size + 1, 5, none⟩) (by show w.heap.size + 1 < _; omega)).trans (Lib.cell_of_heap hB 5), (h.cell (p := ⟨w.heap.size + 1, 6, none⟩) (by show w.heap.size + 1 < _; omega)).trans (Lib.cell_of_heap hB 6)⟩))
  have HB1 := Lib.hid hb1
  have HZ1 := Lib.hid hz1
  have HG1 := Lib.hid (HG.out.below_ hb1)
  have HH1 := Lib.hid (HH.out.below_ hb1)
  have HT1 := Lib.hid (HT.out.below hb1)
  have HP1 := Lib.hid (HP.out.below hb1)
  rw [hw1]
  clear hw1 hb1 hz1 hA hB HG HH HT HP
  go_wp2_with fail
  refine (lives_any w1 HP1.out).mono ?_
  rintro e w2 ⟨rfl, hb⟩
  have HB2 := Lib.hid hb
  clear hb
  obtain ⟨x0, x1, x2, x3, x4, x5, x6⟩ := CX.out w2 HB2.out
  have HLI := Lib.hid (HV.out ▸ light_any w2 x (HG1.out.below_ HB2.out))
  go_upto_region 3 with fail
  go_wp2_with fail
  refine HLI.out.mono ?_
  clear HLI x0 x1 x2 x3 x4 x5 x6
  rintro e w3 ⟨rfl, hb⟩
  have HB3 := Lib.hid (HB2.out.trans (hb.mono HB2.out.size))
  clear hb HB2
  cases hl : lightD x.d 60
  · go_wp2_with fail
    go_ret
    exact ⟨rfl, HB1.out.trans (HB3.out.mono HB1.out.size)⟩
  obtain ⟨y0, y1, y2, y3, y4, y5, y6⟩ := CY.out w3 HB3.out
  have HLI := Lib.hid (HU.out ▸ light_any w3 y (HH1.out.below_ HB3.out))
  go_wp2_with fail
  refine HLI.out.mono ?_
  clear HLI y0 y1 y2 y3 y4 y5 y6
  rintro e w4 ⟨rfl, hb⟩
  have HB4 := Lib.hid (HB3.out.trans (hb.mono HB3.out.size))
  clear hb HB3
  cases hm : lightD y.d 60
  · go_wp2_with fail
    go_ret
    exact ⟨rfl, HB1.out.trans (HB4.out.mono HB1.out.size)⟩
  have HL := Lib.hid hl
  have HK := Lib.hid hm
  clear hl hm
  have htx := fun W (hb : Below w1.heap.size w1 W) => HV.out ▸ text_comb W x (HG1.out.below_ hb) HL.out (HT1.out.below hb) (HP1.out.below hb) HM.out
  have hty := fun W (hb : Below w1.heap.size w1 W) => HU.out ▸ text_comb W y (HH1.out.below_ hb) HK.out (HT1.out.below hb) (HP1.out.below hb) HN.out
  have hcx := fun W (hb : Below w1.heap.size w1 W) => HV.out ▸ zcheck_any W x (HG1.out.below_ hb) (light_few HL.out) (light_long HL.out) HM.out
  have hcy := fun W (hb : Below w1.heap.size w1 W) => HU.out ▸ zcheck_any W y (HH1.out.below_ hb) (light_few HK.out) (light_long HK.out) HN.out
  obtain ⟨q, hq⟩ : ∃ q, checkD x.d = q := ⟨_, rfl⟩
  obtain ⟨r, hr⟩ : ∃ r, checkD y.d = r := ⟨_, rfl⟩
  obtain ⟨S, hS⟩ : ∃ S, ba (tV x.d) = S := ⟨_, rfl⟩
  obtain ⟨T, hT⟩ : ∃ T, ba (tV y.d) = T := ⟨_, rfl⟩
  simp only [hq, hS] at htx hcx
  simp only [hr, hT] at hty hcy
  have HTX := Lib.hid htx
  have HTY := Lib.hid hty
  have HCX := Lib.hid hcx
  have HCY := Lib.hid hcy
  have HQ := Lib.hid hq
  have HR := Lib.hid hr
  have HS := Lib.hid hS
  have HTT := Lib.hid hT
  clear htx hty hcx hcy hq hr hS hT
  obtain ⟨x0, x1, x2, x3, x4, x5, x6⟩ := CX.out w4 HB4.out
  go_wp2_with fail
  refine (HTX.out w4 HB4.out).mono ?_
  clear HTX x0 x1 x2 x3 x4 x5 x6
  rintro e w5 ⟨rfl, hb⟩
  have HB5 := Lib.hid (HB4.out.trans (hb.mono HB4.out.size))
  clear hb HB4
  obtain ⟨y0, y1, y2, y3, y4, y5, y6⟩ := CY.out w5 HB5.out
  go_wp2_with fail
  refine (HTY.out w5 HB5.out).mono ?_
  clear HTY y0 y1 y2 y3 y4 y5 y6
  rintro e w6 ⟨rfl, hb⟩
  have HB6 := Lib.hid (HB5.out.trans (hb.mono HB5.out.size))
  clear hb HB5
  obtain ⟨x0, x1, x2, x3, x4, x5, x6⟩ := CX.out w6 HB6.out
  go_wp2_with fail
  refine (HCX.out w6 HB6.out).mono ?_
  clear HCX x0 x1 x2 x3 x4 x5 x6
  rintro e w7 ⟨rfl, hb⟩
  have HB7 := Lib.hid (HB6.out.trans (hb.mono HB6.out.size))
  clear hb HB6
  obtain ⟨y0, y1, y2, y3, y4, y5, y6⟩ := CY.out w7 HB7.out
  go_wp2_with fail
  refine (HCY.out w7 HB7.out).mono ?_
  clear HCY y0 y1 y2 y3 y4 y5 y6
  rintro e w8 ⟨rfl, hb⟩
  have HB8 := Lib.hid (HB7.out.trans (hb.mono HB7.out.size))
  clear hb HB7
  by_cases hq : q = 0
  · by_cases hr : r = 0
    · rw [hq, hr]
      have HQ0 := Lib.hid (HQ.out.trans hq)
      have HR0 := Lib.hid (HR.out.trans hr)
      clear hq hr HQ HR
      by_cases hlen : 65536 < S.size
      · have q1 : (65536 : Int) < (S.size : Int) := by omega
        clear hlen
        go_wp2_with fail
        go_ret
        exact ⟨rfl, HB1.out.trans (HB8.out.mono HB1.out.size)⟩
      · have q1 : ¬ (65536 : Int) < (S.size : Int) := by omega
        have HTL := Lib.hid (show (tV x.d).length ≤ 65536 by rw [← ba_size, HS.out]; omega)
        have hpr := qparse_any S w8 (by omega)
        rw [read_back x.d S HQ0.out (by rw [← HS.out]; show tV x.d = _; unfold tV; rw [if_pos HQ0.out]) (by omega)] at hpr
        have HPR := Lib.hid hpr
        clear hpr hlen
        go_wp2_with fail
        refine HPR.out.mono ?_
        clear HPR
        rintro e w9 ⟨z, hzd, rfl, hgz, hb⟩
        dsimp only at hzd ⊢
        have HB9 := Lib.hid (HB8.out.trans (hb.mono HB8.out.size))
        obtain ⟨Zs, zs, Zp, zp, Zd, zd, Zr, zr, Zt, zt, Zh, zh, ezs, ezp, ezd, ezr, ezt, ezh⟩ := SheetAt.forms hgz
        have W : z.v = .agg #[.int .i64 z.hor, .slice Zs z.stops.length zs, .slice Zp z.paths.length zp, .slice Zd z.doors.length zd, .slice Zr z.routes.length zr, .slice Zt z.trips.length zt, .slice Zh z.hazs.length zh] := by
          unfold SheetM.v; rw [ezs, ezp, ezd, ezr, ezt, ezh]
        rw [W]
        have HW := Lib.hid W
        have HGZ := Lib.hid hgz
        have HZD := Lib.hid hzd
        clear hb W hgz hzd ezs ezp ezd ezr ezt ezh
        go_upto_region 14 with fail
        obtain ⟨wa, hwa⟩ : ∃ wa, (w9.alloc (.cells #[.int .i64 z.hor, .slice Zs z.stops.length zs, .slice Zp z.paths.length zp, .slice Zd z.doors.length zd, .slice Zr z.routes.length zr, .slice Zt z.trips.length zt, .slice Zh z.hazs.length zh] 29)).alloc (.cells #[.int .i64 0, .int .i64 0, .int .i64 0] 61) = wa := ⟨_, rfl⟩
        have hba : Below w9.heap.size w9 wa := by rw [← hwa]; exact ((Below.refl _ _).alloc (Nat.le_refl _) _).alloc (by simp) _
        have hza : wa.heap.size = w9.heap.size + 2 := by rw [← hwa]; simp
        have hA : wa.heap[w9.heap.size]? = some (.cells #[.int .i64 z.hor, .slice Zs z.stops.length zs, .slice Zp z.paths.length zp, .slice Zd z.doors.length zd, .slice Zr z.routes.length zr, .slice Zt z.trips.length zt, .slice Zh z.hazs.length zh] 29 (0, 0)) := by rw [← hwa, Below.heap_alloc _ _ _ (by simp)]; exact heap_alloc_new _ _
        have hB : wa.heap[w9.heap.size + 1]? = some (.cells #[.int .i64 0, .int .i64 0, .int .i64 0] 61 (0, 0)) := by
          rw [← hwa]
          have h := heap_alloc_new (w9.alloc (.cells #[.int .i64 z.hor, .slice Zs z.stops.length zs, .slice Zp z.paths.length zp, .slice Zd z.doors.length zd, .slice Zr z.routes.length zr, .slice Zt z.trips.length zt, .slice Zh z.hazs.length zh] 29)) (.cells #[.int .i64 0, .int .i64 0, .int .i64 0] 61)
          rw [show (w9.alloc (.cells #[.int .i64 z.hor, .slice Zs z.stops.length zs, .slice Zp z.paths.length zp, .slice Zd z.doors.length zd, .slice Zr z.routes.length zr, .slice Zt z.trips.length zt, .slice Zh z.hazs.length zh] 29)).heap.size = w9.heap.size + 1 by simp] at h
          exact h
        have HBA := Lib.hid (HB9.out.trans (hba.mono HB9.out.size))
        have HGZ1 := Lib.hid (HGZ.out.below_ hba)
        have hsm := light_small HL.out
        have HS1 := Lib.hid (fun W (hb : Below wa.heap.size wa W) => HW.out ▸ HV.out ▸ sameSh_any z x W (HGZ1.out.below_ hb) (HG1.out.below_ (HBA.out.trans (hb.mono HBA.out.size))) (small_d HZD.out hsm))
        have HS2 := Lib.hid (fun W (hb : Below w1.heap.size w1 W) => HV.out ▸ HU.out ▸ sameSh_any x y W (HG1.out.below_ hb) (HH1.out.below_ hb) hsm)
        obtain ⟨x0, x1, x2, x3, x4, x5, x6⟩ := CX.out wa HBA.out
        have z0 : wa.cell? ⟨w9.heap.size, 0, none⟩ = some (.int .i64 z.hor) := Lib.cell_of_heap hA 0
        have z1 : wa.cell? ⟨w9.heap.size, 1, none⟩ = some (.slice Zs z.stops.length zs) := Lib.cell_of_heap hA 1
        have z2 : wa.cell? ⟨w9.heap.size, 2, none⟩ = some (.slice Zp z.paths.length zp) := Lib.cell_of_heap hA 2
        have z3 : wa.cell? ⟨w9.heap.size, 3, none⟩ = some (.slice Zd z.doors.length zd) := Lib.cell_of_heap hA 3
        have z4 : wa.cell? ⟨w9.heap.size, 4, none⟩ = some (.slice Zr z.routes.length zr) := Lib.cell_of_heap hA 4
        have z5 : wa.cell? ⟨w9.heap.size, 5, none⟩ = some (.slice Zt z.trips.length zt) := Lib.cell_of_heap hA 5
        have z6 : wa.cell? ⟨w9.heap.size, 6, none⟩ = some (.slice Zh z.hazs.length zh) := Lib.cell_of_heap hA 6
        have z7 : wa.cell? ⟨w9.heap.size + 1, 0, none⟩ = some (.int .i64 0) := Lib.cell_of_heap hB 0
        rw [hwa]
        clear hwa hba hza hA hB hsm
        go_wp2_with fail
        refine (HS1.out wa (Below.refl _ _)).mono ?_
        clear HS1 z0 z1 z2 z3 z4 z5 z6 z7 x0 x1 x2 x3 x4 x5 x6
        rw [decide_eq_true HZD.out]
        rintro e wb ⟨rfl, hb⟩
        have HBB := Lib.hid (HBA.out.trans (hb.mono HBA.out.size))
        clear hb
        obtain ⟨x0, x1, x2, x3, x4, x5, x6⟩ := CX.out wb HBB.out
        obtain ⟨y0, y1, y2, y3, y4, y5, y6⟩ := CY.out wb HBB.out
        obtain ⟨c, hc⟩ : ∃ c, decide (x.d = y.d) = c := ⟨_, rfl⟩
        have hst : (S.toList == T.toList) = c := by
          rw [← HS.out, ← HTT.out, ba_toList, ba_toList, ← hc, Bool.eq_iff_iff, beq_iff_eq, decide_eq_true_eq]
          exact text_same HQ0.out HR0.out HTL.out
        have HC := Lib.hid hc
        clear hc
        go_wp2_with fail
        refine (HS2.out wb HBB.out).mono ?_
        rw [HC.out]
        clear HS2 x0 x1 x2 x3 x4 x5 x6 y0 y1 y2 y3 y4 y5 y6
        rintro e wc ⟨rfl, hb⟩
        have HBC := Lib.hid (HBB.out.trans (hb.mono HBB.out.size))
        clear hb
        cases c <;> (go_wp2_with fail; go_ret; exact ⟨rfl, HB1.out.trans (HBC.out.mono HB1.out.size)⟩)
    · have k1 : (r == 0) = false := beq_eq_false_iff_ne.2 hr
      have k2 : (r != 0) = true := by rw [bne, k1]; rfl
      rw [hq]
      clear hr hq
      go_wp2_with fail
      go_ret
      exact ⟨rfl, HB1.out.trans (HB8.out.mono HB1.out.size)⟩
  · have k1 : (q == 0) = false := beq_eq_false_iff_ne.2 hq
    have k2 : (q != 0) = true := by rw [bne, k1]; rfl
    have hS : S = ⟨#[]⟩ := by rw [← HS.out]; unfold tV; rw [if_neg (by rw [HQ.out]; exact hq)]; rfl
    rw [hS]
    clear hq hS
    go_wp2_with fail
    go_ret
    exact ⟨rfl, HB1.out.trans (HB8.out.mono HB1.out.size)⟩
end Go.Proofs.YtmihinhbcncbfaaGreatDoor
