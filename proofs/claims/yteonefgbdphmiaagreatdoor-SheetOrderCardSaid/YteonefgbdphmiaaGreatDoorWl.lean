/- Chapter 05: lives. Printed by wip/bin/genwl.py. -/
import Derived.Test.YteonefgbdphmiaaGreatDoorWg
import Derived.Test.YteonefgbdphmiaaGreatDoorQs
import Derived.Test.YteonefgbdphmiaaGreatDoorLs
namespace Go.Proofs.YteonefgbdphmiaaGreatDoor
open Go.RowKit
theorem par1 : parseS ⟨#[104, 111, 114, 105, 122, 111, 110, 32, 57, 10, 115, 116, 111, 112, 32, 97, 10]⟩ = (⟨9, [[97]], [], [], [], [], []⟩, ⟨0, 0, 0⟩) := by decide +kernel
theorem par2 : parseS ⟨#[104, 111, 114, 105, 122, 111, 110, 32, 57, 10, 114, 111, 117, 116, 101, 32, 114, 32, 97, 32, 53, 32, 98, 32, 115, 116, 97, 121, 32, 50, 32, 51, 32, 99, 10]⟩ = (⟨9, [], [], [], [⟨[114], [[97], [98], [99]], [5, 3], [2]⟩], [], []⟩, ⟨0, 0, 0⟩) := by decide +kernel
theorem par3 : parseS ⟨#[115, 116, 111, 112, 32, 97]⟩ = (zeroD, ⟨7, 1, 1⟩) := by decide +kernel
theorem fe0 (W : World) : (Go.binOp BinOp.eql 39 (.agg #[.int .i64 0, .int .i64 0, .int .i64 0]) (.agg #[.int .i64 0, .int .i64 0, .int .i64 0])).run Tryz.prog W = .ok (.bool true) W := by kernel_rfl
theorem fe7 (W : World) : (Go.binOp BinOp.eql 39 (.agg #[.int .i64 7, .int .i64 1, .int .i64 1]) (.agg #[.int .i64 7, .int .i64 1, .int .i64 1])).run Tryz.prog W = .ok (.bool true) W := by kernel_rfl
theorem d_parts {x : SheetM} {d : SheetD} (h : x.d = d) : x.hor = d.hor ∧ x.stops = d.stops ∧ x.paths = d.paths ∧ x.doors = d.doors ∧ x.routes.map RouteM.d = d.routes ∧ x.trips = d.trips ∧ x.hazs = d.hazs := by subst h; exact ⟨rfl, rfl, rfl, rfl, rfl, rfl, rfl⟩
set_option maxHeartbeats 8000000 in
set_option maxRecDepth 100000 in
theorem lives_any (w : World) (hT : Tabs w) (hL : LibOk w) : Calls Tryz.prog 9 #[] w fun e w' => e = .returned (.bool true) ∧ Below w.heap.size w w' := by
  have HT := Lib.hid hT
  have HL := Lib.hid hL
  clear hT hL
  have HP1 := Lib.hid (fun W h1 h2 => sparse_any ⟨#[104, 111, 114, 105, 122, 111, 110, 32, 57, 10, 115, 116, 111, 112, 32, 97, 10]⟩ W h1 h2)
  have HP2 := Lib.hid (fun W h1 h2 => sparse_any ⟨#[104, 111, 114, 105, 122, 111, 110, 32, 57, 10, 114, 111, 117, 116, 101, 32, 114, 32, 97, 32, 53, 32, 98, 32, 115, 116, 97, 121, 32, 50, 32, 51, 32, 99, 10]⟩ W h1 h2)
  have HP3 := Lib.hid (fun W h1 h2 => sparse_any ⟨#[115, 116, 111, 112, 32, 97]⟩ W h1 h2)
  rw [par1] at HP1
  rw [par2] at HP2
  rw [par3] at HP3
  dsimp only [FaultD.v] at HP1 HP2 HP3
  go_enter Tryz.func9, Tryz.ntmps9
  go_wp2_with fail
  refine (HP1.out w HT.out HL.out).mono ?_
  rintro e w1 ⟨x, hxd, rfl, hgx, hb⟩
  have HBw1 := Lib.hid hb
  have HDx := Lib.hid (d_parts hxd)
  clear hb hxd HP1
  obtain ⟨Xs, Xs_, Xp, Xp_, Xd, Xd_, Xr, Xr_, Xt, Xt_, Xh, Xh_, exs, exp, exd, exr, ext, exh⟩ := SheetAt.forms hgx
  have Vx : x.v = .agg #[.int .i64 x.hor, .slice Xs x.stops.length Xs_, .slice Xp x.paths.length Xp_, .slice Xd x.doors.length Xd_, .slice Xr x.routes.length Xr_, .slice Xt x.trips.length Xt_, .slice Xh x.hazs.length Xh_] := by
    unfold SheetM.v; rw [exs, exp, exd, exr, ext, exh]
  rw [Vx]
  have HVx := Lib.hid Vx
  have HGx := Lib.hid hgx
  have HFx := Lib.hid (show x.vs = .slice Xs x.stops.length Xs_ ∧ x.vp = .slice Xp x.paths.length Xp_ ∧ x.vd = .slice Xd x.doors.length Xd_ ∧ x.vr = .slice Xr x.routes.length Xr_ ∧ x.vt = .slice Xt x.trips.length Xt_ ∧ x.vh = .slice Xh x.hazs.length Xh_ from ⟨exs, exp, exd, exr, ext, exh⟩)
  clear Vx hgx exs exp exd exr ext exh
  go_upto_region 2 with fail
  obtain ⟨w2, hwa⟩ : ∃ wa, (w1.alloc (.cells #[.int .i64 x.hor, .slice Xs x.stops.length Xs_, .slice Xp x.paths.length Xp_, .slice Xd x.doors.length Xd_, .slice Xr x.routes.length Xr_, .slice Xt x.trips.length Xt_, .slice Xh x.hazs.length Xh_] 29)).alloc (.cells #[.int .i64 0, .int .i64 0, .int .i64 0] 39) = wa := ⟨_, rfl⟩
  have hba : Below w1.heap.size w1 w2 := by rw [← hwa]; exact ((Below.refl _ _).alloc (Nat.le_refl _) _).alloc (by simp) _
  have hza : w2.heap.size = w1.heap.size + 2 := by rw [← hwa]; simp
  have hA : w2.heap[w1.heap.size]? = some (.cells #[.int .i64 x.hor, .slice Xs x.stops.length Xs_, .slice Xp x.paths.length Xp_, .slice Xd x.doors.length Xd_, .slice Xr x.routes.length Xr_, .slice Xt x.trips.length Xt_, .slice Xh x.hazs.length Xh_] 29 (0, 0)) := by rw [← hwa, Below.heap_alloc _ _ _ (by simp)]; exact heap_alloc_new _ _
  have hB : w2.heap[w1.heap.size + 1]? = some (.cells #[.int .i64 0, .int .i64 0, .int .i64 0] 39 (0, 0)) := by
    rw [← hwa]
    have h := heap_alloc_new (w1.alloc (.cells #[.int .i64 x.hor, .slice Xs x.stops.length Xs_, .slice Xp x.paths.length Xp_, .slice Xd x.doors.length Xd_, .slice Xr x.routes.length Xr_, .slice Xt x.trips.length Xt_, .slice Xh x.hazs.length Xh_] 29)) (.cells #[.int .i64 0, .int .i64 0, .int .i64 0] 39)
    rw [show (w1.alloc (.cells #[.int .i64 x.hor, .slice Xs x.stops.length Xs_, .slice Xp x.paths.length Xp_, .slice Xd x.doors.length Xd_, .slice Xr x.routes.length Xr_, .slice Xt x.trips.length Xt_, .slice Xh x.hazs.length Xh_] 29)).heap.size = w1.heap.size + 1 by simp] at h
    exact h
  have Cx := Lib.hid (fun (wy : World) (h : Below w2.heap.size w2 wy) => (show wy.cell? ⟨w1.heap.size, 0, none⟩ = some (.int .i64 x.hor) ∧ wy.cell? ⟨w1.heap.size, 1, none⟩ = some (.slice Xs x.stops.length Xs_) ∧ wy.cell? ⟨w1.heap.size, 2, none⟩ = some (.slice Xp x.paths.length Xp_) ∧ wy.cell? ⟨w1.heap.size, 3, none⟩ = some (.slice Xd x.doors.length Xd_) ∧ wy.cell? ⟨w1.heap.size, 4, none⟩ = some (.slice Xr x.routes.length Xr_) ∧ wy.cell? ⟨w1.heap.size, 5, none⟩ = some (.slice Xt x.trips.length Xt_) ∧ wy.cell? ⟨w1.heap.size, 6, none⟩ = some (.slice Xh x.hazs.length Xh_) from ⟨(h.cell (p := ⟨w1.heap.size, 0, none⟩) (by show w1.heap.size < _; omega)).trans (Lib.cell_of_heap hA 0), (h.cell (p := ⟨w1.heap.size, 1, none⟩) (by show w1.heap.size < _; omega)).trans (Lib.cell_of_heap hA 1), (h.cell (p := ⟨w1.heap.size, 2, none⟩) (by show w1.heap.size < _; omega)).trans (Lib.cell_of_heap hA 2), (h.cell (p := ⟨w1.heap.size, 3, none⟩) (by show w1.heap.size < _; omega)).trans (Lib.cell_of_heap hA 3), (h.cell (p := ⟨w1.heap.size, 4, none⟩) (by show w1.heap.size < _; omega)).trans (Lib.cell_of_heap hA 4), (h.cell (p := ⟨w1.heap.size, 5, none⟩) (by show w1.heap.size < _; omega)).trans (Lib.cell_of_heap hA 5), (h.cell (p := ⟨w1.heap.size, 6, none⟩) (by show w1.heap.size < _; omega)).trans (Lib.cell_of_heap hA 6)⟩))
  have Fx := Lib.hid (fun (wy : World) (h : Below w2.heap.size w2 wy) => (show wy.cell? ⟨w1.heap.size + 1, 0, none⟩ = some (.int .i64 0) ∧ wy.cell? ⟨w1.heap.size + 1, 1, none⟩ = some (.int .i64 0) ∧ wy.cell? ⟨w1.heap.size + 1, 2, none⟩ = some (.int .i64 0) from ⟨(h.cell (p := ⟨w1.heap.size + 1, 0, none⟩) (by show w1.heap.size + 1 < _; omega)).trans (Lib.cell_of_heap hB 0), (h.cell (p := ⟨w1.heap.size + 1, 1, none⟩) (by show w1.heap.size + 1 < _; omega)).trans (Lib.cell_of_heap hB 1), (h.cell (p := ⟨w1.heap.size + 1, 2, none⟩) (by show w1.heap.size + 1 < _; omega)).trans (Lib.cell_of_heap hB 2)⟩))
  have HBw2 := Lib.hid (HBw1.out.trans (hba.mono HBw1.out.size))
  have HGx2 := Lib.hid (HGx.out.below_ hba)
  clear HGx
  have HGx := Lib.hid HGx2.out
  clear HGx2
  have HNw2 := Lib.hid hba
  try rw [hwa]
  clear hwa hba hza hA hB
  go_wp2_with fail
  refine (HP2.out w2 (HT.out.below HBw2.out) (HL.out.below HBw2.out)).mono ?_
  rintro e w3 ⟨y, hyd, rfl, hgy, hb⟩
  have HBw3 := Lib.hid (HBw2.out.trans (hb.mono HBw2.out.size))
  have HNw3 := Lib.hid hb
  have HDy := Lib.hid (d_parts hyd)
  clear hb hyd HP2
  obtain ⟨Ys, Ys_, Yp, Yp_, Yd, Yd_, Yr, Yr_, Yt, Yt_, Yh, Yh_, eys, eyp, eyd, eyr, eyt, eyh⟩ := SheetAt.forms hgy
  have Vy : y.v = .agg #[.int .i64 y.hor, .slice Ys y.stops.length Ys_, .slice Yp y.paths.length Yp_, .slice Yd y.doors.length Yd_, .slice Yr y.routes.length Yr_, .slice Yt y.trips.length Yt_, .slice Yh y.hazs.length Yh_] := by
    unfold SheetM.v; rw [eys, eyp, eyd, eyr, eyt, eyh]
  rw [Vy]
  have HVy := Lib.hid Vy
  have HGy := Lib.hid hgy
  have HFy := Lib.hid (show y.vs = .slice Ys y.stops.length Ys_ ∧ y.vp = .slice Yp y.paths.length Yp_ ∧ y.vd = .slice Yd y.doors.length Yd_ ∧ y.vr = .slice Yr y.routes.length Yr_ ∧ y.vt = .slice Yt y.trips.length Yt_ ∧ y.vh = .slice Yh y.hazs.length Yh_ from ⟨eys, eyp, eyd, eyr, eyt, eyh⟩)
  clear Vy hgy eys eyp eyd eyr eyt eyh
  go_upto_region 3 with fail
  obtain ⟨w4, hwa⟩ : ∃ wa, (w3.alloc (.cells #[.int .i64 y.hor, .slice Ys y.stops.length Ys_, .slice Yp y.paths.length Yp_, .slice Yd y.doors.length Yd_, .slice Yr y.routes.length Yr_, .slice Yt y.trips.length Yt_, .slice Yh y.hazs.length Yh_] 29)).alloc (.cells #[.int .i64 0, .int .i64 0, .int .i64 0] 39) = wa := ⟨_, rfl⟩
  have hba : Below w3.heap.size w3 w4 := by rw [← hwa]; exact ((Below.refl _ _).alloc (Nat.le_refl _) _).alloc (by simp) _
  have hza : w4.heap.size = w3.heap.size + 2 := by rw [← hwa]; simp
  have hA : w4.heap[w3.heap.size]? = some (.cells #[.int .i64 y.hor, .slice Ys y.stops.length Ys_, .slice Yp y.paths.length Yp_, .slice Yd y.doors.length Yd_, .slice Yr y.routes.length Yr_, .slice Yt y.trips.length Yt_, .slice Yh y.hazs.length Yh_] 29 (0, 0)) := by rw [← hwa, Below.heap_alloc _ _ _ (by simp)]; exact heap_alloc_new _ _
  have hB : w4.heap[w3.heap.size + 1]? = some (.cells #[.int .i64 0, .int .i64 0, .int .i64 0] 39 (0, 0)) := by
    rw [← hwa]
    have h := heap_alloc_new (w3.alloc (.cells #[.int .i64 y.hor, .slice Ys y.stops.length Ys_, .slice Yp y.paths.length Yp_, .slice Yd y.doors.length Yd_, .slice Yr y.routes.length Yr_, .slice Yt y.trips.length Yt_, .slice Yh y.hazs.length Yh_] 29)) (.cells #[.int .i64 0, .int .i64 0, .int .i64 0] 39)
    rw [show (w3.alloc (.cells #[.int .i64 y.hor, .slice Ys y.stops.length Ys_, .slice Yp y.paths.length Yp_, .slice Yd y.doors.length Yd_, .slice Yr y.routes.length Yr_, .slice Yt y.trips.length Yt_, .slice Yh y.hazs.length Yh_] 29)).heap.size = w3.heap.size + 1 by simp] at h
    exact h
  have Cy := Lib.hid (fun (wy : World) (h : Below w4.heap.size w4 wy) => (show wy.cell? ⟨w3.heap.size, 0, none⟩ = some (.int .i64 y.hor) ∧ wy.cell? ⟨w3.heap.size, 1, none⟩ = some (.slice Ys y.stops.length Ys_) ∧ wy.cell? ⟨w3.heap.size, 2, none⟩ = some (.slice Yp y.paths.length Yp_) ∧ wy.cell? ⟨w3.heap.size, 3, none⟩ = some (.slice Yd y.doors.length Yd_) ∧ wy.cell? ⟨w3.heap.size, 4, none⟩ = some (.slice Yr y.routes.length Yr_) ∧ wy.cell? ⟨w3.heap.size, 5, none⟩ = some (.slice Yt y.trips.length Yt_) ∧ wy.cell? ⟨w3.heap.size, 6, none⟩ = some (.slice Yh y.hazs.length Yh_) from ⟨(h.cell (p := ⟨w3.heap.size, 0, none⟩) (by show w3.heap.size < _; omega)).trans (Lib.cell_of_heap hA 0), (h.cell (p := ⟨w3.heap.size, 1, none⟩) (by show w3.heap.size < _; omega)).trans (Lib.cell_of_heap hA 1), (h.cell (p := ⟨w3.heap.size, 2, none⟩) (by show w3.heap.size < _; omega)).trans (Lib.cell_of_heap hA 2), (h.cell (p := ⟨w3.heap.size, 3, none⟩) (by show w3.heap.size < _; omega)).trans (Lib.cell_of_heap hA 3), (h.cell (p := ⟨w3.heap.size, 4, none⟩) (by show w3.heap.size < _; omega)).trans (Lib.cell_of_heap hA 4), (h.cell (p := ⟨w3.heap.size, 5, none⟩) (by show w3.heap.size < _; omega)).trans (Lib.cell_of_heap hA 5), (h.cell (p := ⟨w3.heap.size, 6, none⟩) (by show w3.heap.size < _; omega)).trans (Lib.cell_of_heap hA 6)⟩))
  have Fy := Lib.hid (fun (wy : World) (h : Below w4.heap.size w4 wy) => (show wy.cell? ⟨w3.heap.size + 1, 0, none⟩ = some (.int .i64 0) ∧ wy.cell? ⟨w3.heap.size + 1, 1, none⟩ = some (.int .i64 0) ∧ wy.cell? ⟨w3.heap.size + 1, 2, none⟩ = some (.int .i64 0) from ⟨(h.cell (p := ⟨w3.heap.size + 1, 0, none⟩) (by show w3.heap.size + 1 < _; omega)).trans (Lib.cell_of_heap hB 0), (h.cell (p := ⟨w3.heap.size + 1, 1, none⟩) (by show w3.heap.size + 1 < _; omega)).trans (Lib.cell_of_heap hB 1), (h.cell (p := ⟨w3.heap.size + 1, 2, none⟩) (by show w3.heap.size + 1 < _; omega)).trans (Lib.cell_of_heap hB 2)⟩))
  have HBw4 := Lib.hid (HBw3.out.trans (hba.mono HBw3.out.size))
  have HGy2 := Lib.hid (HGy.out.below_ hba)
  clear HGy
  have HGy := Lib.hid HGy2.out
  clear HGy2
  have HNw4 := Lib.hid hba
  try rw [hwa]
  clear hwa hba hza hA hB
  go_wp2_with fail
  refine (HP3.out w4 (HT.out.below HBw4.out) (HL.out.below HBw4.out)).mono ?_
  rintro e w5 ⟨z, hzd, rfl, hgz, hb⟩
  have HBw5 := Lib.hid (HBw4.out.trans (hb.mono HBw4.out.size))
  have HNw5 := Lib.hid hb
  clear hb hzd HP3
  obtain ⟨Zs, Zs_, Zp, Zp_, Zd, Zd_, Zr, Zr_, Zt, Zt_, Zh, Zh_, ezs, ezp, ezd, ezr, ezt, ezh⟩ := SheetAt.forms hgz
  have Vz : z.v = .agg #[.int .i64 z.hor, .slice Zs z.stops.length Zs_, .slice Zp z.paths.length Zp_, .slice Zd z.doors.length Zd_, .slice Zr z.routes.length Zr_, .slice Zt z.trips.length Zt_, .slice Zh z.hazs.length Zh_] := by
    unfold SheetM.v; rw [ezs, ezp, ezd, ezr, ezt, ezh]
  rw [Vz]
  have HVz := Lib.hid Vz
  have HGz := Lib.hid hgz
  have HFz := Lib.hid (show z.vs = .slice Zs z.stops.length Zs_ ∧ z.vp = .slice Zp z.paths.length Zp_ ∧ z.vd = .slice Zd z.doors.length Zd_ ∧ z.vr = .slice Zr z.routes.length Zr_ ∧ z.vt = .slice Zt z.trips.length Zt_ ∧ z.vh = .slice Zh z.hazs.length Zh_ from ⟨ezs, ezp, ezd, ezr, ezt, ezh⟩)
  clear Vz hgz ezs ezp ezd ezr ezt ezh
  go_upto_region 4 with fail
  obtain ⟨w6, hwa⟩ : ∃ wa, (w5.alloc (.cells #[.int .i64 z.hor, .slice Zs z.stops.length Zs_, .slice Zp z.paths.length Zp_, .slice Zd z.doors.length Zd_, .slice Zr z.routes.length Zr_, .slice Zt z.trips.length Zt_, .slice Zh z.hazs.length Zh_] 29)).alloc (.cells #[.int .i64 7, .int .i64 1, .int .i64 1] 39) = wa := ⟨_, rfl⟩
  have hba : Below w5.heap.size w5 w6 := by rw [← hwa]; exact ((Below.refl _ _).alloc (Nat.le_refl _) _).alloc (by simp) _
  have hza : w6.heap.size = w5.heap.size + 2 := by rw [← hwa]; simp
  have hA : w6.heap[w5.heap.size]? = some (.cells #[.int .i64 z.hor, .slice Zs z.stops.length Zs_, .slice Zp z.paths.length Zp_, .slice Zd z.doors.length Zd_, .slice Zr z.routes.length Zr_, .slice Zt z.trips.length Zt_, .slice Zh z.hazs.length Zh_] 29 (0, 0)) := by rw [← hwa, Below.heap_alloc _ _ _ (by simp)]; exact heap_alloc_new _ _
  have hB : w6.heap[w5.heap.size + 1]? = some (.cells #[.int .i64 7, .int .i64 1, .int .i64 1] 39 (0, 0)) := by
    rw [← hwa]
    have h := heap_alloc_new (w5.alloc (.cells #[.int .i64 z.hor, .slice Zs z.stops.length Zs_, .slice Zp z.paths.length Zp_, .slice Zd z.doors.length Zd_, .slice Zr z.routes.length Zr_, .slice Zt z.trips.length Zt_, .slice Zh z.hazs.length Zh_] 29)) (.cells #[.int .i64 7, .int .i64 1, .int .i64 1] 39)
    rw [show (w5.alloc (.cells #[.int .i64 z.hor, .slice Zs z.stops.length Zs_, .slice Zp z.paths.length Zp_, .slice Zd z.doors.length Zd_, .slice Zr z.routes.length Zr_, .slice Zt z.trips.length Zt_, .slice Zh z.hazs.length Zh_] 29)).heap.size = w5.heap.size + 1 by simp] at h
    exact h
  have Cz := Lib.hid (fun (wy : World) (h : Below w6.heap.size w6 wy) => (show wy.cell? ⟨w5.heap.size, 0, none⟩ = some (.int .i64 z.hor) ∧ wy.cell? ⟨w5.heap.size, 1, none⟩ = some (.slice Zs z.stops.length Zs_) ∧ wy.cell? ⟨w5.heap.size, 2, none⟩ = some (.slice Zp z.paths.length Zp_) ∧ wy.cell? ⟨w5.heap.size, 3, none⟩ = some (.slice Zd z.doors.length Zd_) ∧ wy.cell? ⟨w5.heap.size, 4, none⟩ = some (.slice Zr z.routes.length Zr_) ∧ wy.cell? ⟨w5.heap.size, 5, none⟩ = some (.slice Zt z.trips.length Zt_) ∧ wy.cell? ⟨w5.heap.size, 6, none⟩ = some (.slice Zh z.hazs.length Zh_) from ⟨(h.cell (p := ⟨w5.heap.size, 0, none⟩) (by show w5.heap.size < _; omega)).trans (Lib.cell_of_heap hA 0), (h.cell (p := ⟨w5.heap.size, 1, none⟩) (by show w5.heap.size < _; omega)).trans (Lib.cell_of_heap hA 1), (h.cell (p := ⟨w5.heap.size, 2, none⟩) (by show w5.heap.size < _; omega)).trans (Lib.cell_of_heap hA 2), (h.cell (p := ⟨w5.heap.size, 3, none⟩) (by show w5.heap.size < _; omega)).trans (Lib.cell_of_heap hA 3), (h.cell (p := ⟨w5.heap.size, 4, none⟩) (by show w5.heap.size < _; omega)).trans (Lib.cell_of_heap hA 4), (h.cell (p := ⟨w5.heap.size, 5, none⟩) (by show w5.heap.size < _; omega)).trans (Lib.cell_of_heap hA 5), (h.cell (p := ⟨w5.heap.size, 6, none⟩) (by show w5.heap.size < _; omega)).trans (Lib.cell_of_heap hA 6)⟩))
  have Fz := Lib.hid (fun (wy : World) (h : Below w6.heap.size w6 wy) => (show wy.cell? ⟨w5.heap.size + 1, 0, none⟩ = some (.int .i64 7) ∧ wy.cell? ⟨w5.heap.size + 1, 1, none⟩ = some (.int .i64 1) ∧ wy.cell? ⟨w5.heap.size + 1, 2, none⟩ = some (.int .i64 1) from ⟨(h.cell (p := ⟨w5.heap.size + 1, 0, none⟩) (by show w5.heap.size + 1 < _; omega)).trans (Lib.cell_of_heap hB 0), (h.cell (p := ⟨w5.heap.size + 1, 1, none⟩) (by show w5.heap.size + 1 < _; omega)).trans (Lib.cell_of_heap hB 1), (h.cell (p := ⟨w5.heap.size + 1, 2, none⟩) (by show w5.heap.size + 1 < _; omega)).trans (Lib.cell_of_heap hB 2)⟩))
  have HBw6 := Lib.hid (HBw5.out.trans (hba.mono HBw5.out.size))
  have HGz2 := Lib.hid (HGz.out.below_ hba)
  clear HGz
  have HGz := Lib.hid HGz2.out
  clear HGz2
  have HNw6 := Lib.hid hba
  try rw [hwa]
  clear hwa hba hza hA hB
  have N42 := Lib.hid (HNw3.out.trans (HNw4.out.mono HNw3.out.size))
  have N64 := Lib.hid (HNw5.out.trans (HNw6.out.mono HNw5.out.size))
  have N62 := Lib.hid (N42.out.trans (N64.out.mono N42.out.size))
  obtain ⟨x0, x1, _, _, _, _, _⟩ := Cx.out w6 N62.out
  obtain ⟨f0, f1, f2⟩ := Fx.out w6 N62.out
  obtain ⟨g0, g1, g2⟩ := Fy.out w6 N64.out
  obtain ⟨h0, h1, h2⟩ := Fz.out w6 (Below.refl _ _)
  have c9 : (x.hor == 9) = true := beq_iff_eq.2 HDx.out.1
  have q0 := fe0
  have q7 := fe7
  go_wp2_with fail
  obtain ⟨w7, hw7⟩ : ∃ w7, w6.alloc (.cells #[.string ⟨#[97]⟩] 9) = w7 := ⟨_, rfl⟩
  have N7 := Lib.hid (show Below w6.heap.size w6 w7 by rw [← hw7]; exact (Below.refl _ _).alloc (Nat.le_refl _) _)
  have hs2 : Sl nc 1 w7 (.slice (some ⟨w6.heap.size, 0, none⟩) 1 1) [[97]] (fun _ => True) := by rw [← hw7]; exact (Sl.new1 (c := nc) [97] rfl).mono fun _ _ => trivial
  have hs1 : Sl nc 1 w7 (.slice Xs x.stops.length Xs_) x.stops _ := (HFx.out.1 ▸ HGx.out.stops).below_ (N62.out.trans (N7.out.mono N62.out.size))
  try rw [hw7]
  clear hw7
  have hsm := sameStr_any _ _ x.stops [[97]] w7 hs1 hs2 (by rw [HDx.out.2.1]; decide)
  rw [decide_eq_true HDx.out.2.1] at hsm
  refine hsm.mono ?_
  rintro e w8 ⟨rfl, n8, rfl⟩
  have N84 := Lib.hid (N64.out.trans ((below_drewN N7.out n8).mono N64.out.size))
  have N86 := Lib.hid (below_drewN N7.out n8)
  clear hsm hs1 hs2 x0 x1 f0 f1 f2 g0 g1 g2 h0 h1 h2 c9
  obtain ⟨r, hr1, hr2⟩ : ∃ r, y.routes = [r] ∧ r.d = ⟨[114], [[97], [98], [99]], [5, 3], [2]⟩ := by
    have h := HDy.out.2.2.2.2.1
    cases hy : y.routes with
    | nil => rw [hy] at h; cases h
    | cons r l =>
      rw [hy, List.map_cons] at h
      injection h with h1 h2
      cases l with
      | nil => exact ⟨r, rfl, h1⟩
      | cons a b => cases h2
  have hlr : y.routes.length = 1 := by rw [hr1]; rfl
  obtain ⟨b1, o1, p1, e1, _, _, hl3, _, hx⟩ := HGy.out.routes.at_ (show 0 < y.routes.length by omega)
  rw [HFy.out.2.2.2.1] at e1
  injection e1 with e1 _ _
  subst e1
  have hrr : y.routes[0]'(by omega) = r := by simp [hr1]
  rw [hrr] at hx
  have hge := HGy.out.each r (by rw [hr1]; exact List.mem_cons_self ..)
  obtain ⟨R2, c2, e2, _, _⟩ := hge.rides.shape
  obtain ⟨R3, c3, e3, _, _⟩ := hge.stays.shape
  have k2 : r.rides = [5, 3] := congrArg RouteD.rides hr2
  have k3 : r.stays = [2] := congrArg RouteD.stays hr2
  have l2 : r.rides.length = 2 := by rw [k2]; rfl
  have l3 : r.stays.length = 1 := by rw [k3]; rfl
  rw [l2] at e2
  rw [l3] at e3
  have CR := Lib.hid (fun (wy : World) (h : Below w4.heap.size w4 wy) => (show wy.cell? ⟨b1, o1 + 2, none⟩ = some (.slice R2 2 c2) ∧ wy.cell? ⟨b1, o1 + 3, none⟩ = some (.slice R3 1 c3) from
    ⟨(h.cell (p := ⟨b1, o1 + 2, none⟩) hl3).trans (by rw [← e2]; simpa using hx 2 _ rfl), (h.cell (p := ⟨b1, o1 + 3, none⟩) hl3).trans (by rw [← e3]; simpa using hx 3 _ rfl)⟩))
  have HS2 := Lib.hid (show Sl ic 1 w4 (.slice R2 2 c2) [5, 3] (fun _ => True) by rw [← e2, ← k2]; exact hge.rides.mono fun _ _ => trivial)
  have HS3 := Lib.hid (show Sl ic 1 w4 (.slice R3 1 c3) [2] (fun _ => True) by rw [← e3, ← k3]; exact hge.stays.mono fun _ _ => trivial)
  have HLR := Lib.hid hlr
  clear hge hx hl3 hrr e2 e3 k2 k3 l2 l3 hr1 hr2
  obtain ⟨g0, g1, g2⟩ := Fy.out _ N84.out
  obtain ⟨_, _, _, _, y4, _, _⟩ := Cy.out _ N84.out
  obtain ⟨r2, r3⟩ := CR.out _ N84.out
  rw [hlr] at y4
  clear hlr
  generalize w7.drewN n8 = w8 at *
  go_wp2_with fail
  obtain ⟨w9, hw9⟩ : ∃ w9, w8.alloc (.cells #[.int .i64 5, .int .i64 3] 2) = w9 := ⟨_, rfl⟩
  have N9 := Lib.hid (show Below w8.heap.size w8 w9 by rw [← hw9]; exact (Below.refl _ _).alloc (Nat.le_refl _) _)
  have hs2 : Sl ic 1 w9 (.slice (some ⟨w8.heap.size, 0, none⟩) 2 2) [5, 3] (fun _ => True) := by rw [← hw9]; exact (Sl.newl [5, 3] ic_len rfl rfl (by decide) rfl)
  have N94 := Lib.hid (N84.out.trans (N9.out.mono N84.out.size))
  try rw [hw9]
  clear hw9
  have hsm := sameInt_any _ _ [5, 3] [5, 3] w9 (HS2.out.below_ N94.out) hs2 (by decide)
  rw [decide_eq_true rfl] at hsm
  refine hsm.mono ?_
  rintro e wx ⟨rfl, n9, rfl⟩
  have N104 := Lib.hid (below_drewN N94.out n9)
  have N108 := Lib.hid (below_drewN N9.out n9)
  clear hsm hs2 g0 g1 g2 y4 r2 r3
  obtain ⟨_, _, _, _, y4, _, _⟩ := Cy.out _ N104.out
  obtain ⟨r2, r3⟩ := CR.out _ N104.out
  rw [HLR.out] at y4
  generalize w9.drewN n9 = w10 at *
  go_wp2_with fail
  obtain ⟨w11, hw9⟩ : ∃ w9, w10.alloc (.cells #[.int .i64 2] 2) = w9 := ⟨_, rfl⟩
  have N11 := Lib.hid (show Below w10.heap.size w10 w11 by rw [← hw9]; exact (Below.refl _ _).alloc (Nat.le_refl _) _)
  have hs2 : Sl ic 1 w11 (.slice (some ⟨w10.heap.size, 0, none⟩) 1 1) [2] (fun _ => True) := by rw [← hw9]; exact (Sl.newl [2] ic_len rfl rfl (by decide) rfl)
  have N114 := Lib.hid (N104.out.trans (N11.out.mono N104.out.size))
  try rw [hw9]
  clear hw9
  have hsm := sameInt_any _ _ [2] [2] w11 (HS3.out.below_ N114.out) hs2 (by decide)
  rw [decide_eq_true rfl] at hsm
  refine hsm.mono ?_
  rintro e wx ⟨rfl, n11, rfl⟩
  have N126 := Lib.hid (N86.out.trans ((N108.out.trans ((below_drewN N11.out n11).mono N108.out.size)).mono N86.out.size))
  clear hsm hs2 y4 r2 r3
  obtain ⟨h0, h1, h2⟩ := Fz.out _ N126.out
  generalize w11.drewN n11 = w12 at *
  go_wp2_with fail
  go_ret
  exact ⟨rfl, HBw6.out.trans (N126.out.mono HBw6.out.size)⟩
end Go.Proofs.YteonefgbdphmiaaGreatDoor
