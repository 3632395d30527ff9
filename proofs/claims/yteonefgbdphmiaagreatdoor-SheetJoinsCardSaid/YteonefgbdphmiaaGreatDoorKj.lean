/- The law SheetJoins: its walk. Printed by wip/bin/genkj.py. -/
import Derived.Test.YteonefgbdphmiaaGreatDoorKb
import Derived.Test.YteonefgbdphmiaaGreatDoorWl
import Derived.Test.YteonefgbdphmiaaGreatDoorPm
import Derived.Test.YteonefgbdphmiaaGreatDoorJs
import Derived.Test.YteonefgbdphmiaaGreatDoorZs
import Derived.Test.YteonefgbdphmiaaGreatDoorZf
import Derived.Test.YteonefgbdphmiaaGreatDoorMh
namespace Go.Proofs.YteonefgbdphmiaaGreatDoor
open Go.RowKit
theorem tx2_small (A D : Nms) (hA : (textL A).length ≤ 24810201) (h : ∀ s ∈ D, s.length ≤ 4000) (hl : D.length ≤ 6201) (k : Nat) : (ba (textL (A ++ (D.take k).drop 1))).size ≤ 49620402 := by
  rw [ba_size]
  have e : textL (A ++ (D.take k).drop 1) = textL A ++ textL ((D.take k).drop 1) := by unfold textL; rw [List.flatMap_append]
  have h1 := textL_le ((D.take k).drop 1) (B := 4000) fun s hs => h s (List.mem_of_mem_take (List.mem_of_mem_drop hs))
  have h2 : ((D.take k).drop 1).length ≤ 6201 := by rw [List.length_drop, List.length_take]; omega
  have h3 : ((D.take k).drop 1).length * (4000 + 1) ≤ 6201 * (4000 + 1) := Nat.mul_le_mul_right _ h2
  rw [e, List.length_append]
  omega
theorem drop_step (D : Nms) (k : Nat) (h0 : 1 ≤ k) (h : k < D.length) : (D.take (k + 1)).drop 1 = (D.take k).drop 1 ++ [D[k]] := by
  rw [take_succ_eq D k h, List.drop_append_of_le_length (by rw [List.length_take]; omega)]
theorem light_join {x y : SheetM} (hx : lightD x.d 60 = true) (hy : lightD y.d 60 = true) : longD (joinD x.d y.d) = false := by
  obtain ⟨⟨h1, h2, h3, h4, h5, h6⟩, _⟩ := light_parts hx
  obtain ⟨⟨k1, k2, k3, k4, k5, k6⟩, _⟩ := light_parts hy
  refine long_of ⟨?_, ?_, ?_, ?_, ?_, ?_⟩ <;> simp only [joinD, SheetM.d, List.length_append, List.length_map] <;> omega
theorem join_small {z x y : SheetM} (hz : z.d = joinD x.d y.d) (hx : lightD x.d 60 = true) (hy : lightD y.d 60 = true) : z.Small ∧ z.Few := by
  obtain ⟨⟨h1, h2, h3, h4, h5, h6⟩, h7⟩ := light_parts hx
  obtain ⟨⟨k1, k2, k3, k4, k5, k6⟩, k7⟩ := light_parts hy
  obtain ⟨_, e1, e2, e3, e4, e5, e6⟩ := d_parts hz
  have el : z.routes.length = x.routes.length + y.routes.length := by
    have := congrArg List.length e4
    simpa [joinD, SheetM.d] using this
  have er : ∀ r ∈ z.routes, r.stops.length ≤ 60 ∧ r.rides.length ≤ 60 ∧ r.stays.length ≤ 60 := by
    intro r hr
    have hm : r.d ∈ (joinD x.d y.d).routes := by rw [← e4]; exact List.mem_map_of_mem hr
    rcases List.mem_append.1 hm with hm | hm
    · obtain ⟨q, hq, hqd⟩ := List.mem_map.1 hm
      have := h7 q hq
      injection hqd with a1 a2 a3 a4
      rw [← a2, ← a3, ← a4]; exact this
    · obtain ⟨q, hq, hqd⟩ := List.mem_map.1 hm
      have := k7 q hq
      injection hqd with a1 a2 a3 a4
      rw [← a2, ← a3, ← a4]; exact this
  have l1 : z.stops.length ≤ 120 := by rw [e1]; simp only [joinD, SheetM.d, List.length_append]; omega
  have l2 : z.paths.length ≤ 120 := by rw [e2]; simp only [joinD, SheetM.d, List.length_append]; omega
  have l3 : z.doors.length ≤ 120 := by rw [e3]; simp only [joinD, SheetM.d, List.length_append]; omega
  have l5 : z.trips.length ≤ 120 := by rw [e5]; simp only [joinD, SheetM.d, List.length_append]; omega
  have l6 : z.hazs.length ≤ 120 := by rw [e6]; simp only [joinD, SheetM.d, List.length_append]; omega
  exact ⟨⟨by omega, by omega, by omega, by omega, by omega, by omega, fun r hr => by obtain ⟨a, b, c⟩ := er r hr; exact ⟨by omega, by omega, by omega⟩⟩,
    ⟨by omega, by omega, by omega, by omega, by omega, by omega, fun r hr => by obtain ⟨a, b, c⟩ := er r hr; exact ⟨by omega, by omega, by omega⟩⟩⟩
theorem join_things (x y : SheetD) : thingsD (joinD x y) = thingsD x + thingsD y := by
  unfold thingsD joinD
  simp only [List.length_append]
  omega
theorem OwnS.goodJ {w w' : World} {x y : SheetM} (h : OwnS w x y w') : y.Good w' (fun _ => True) :=
  ⟨(h.stops.sl nc_len).mono fun _ _ => trivial, (h.paths.sl pc_len).mono fun _ _ => trivial, (h.doors.sl dc_len).mono fun _ _ => trivial, h.routes.mono fun _ _ => trivial, fun r hr => (h.each r hr).mono fun _ _ => trivial, (h.trips.sl trc_len).mono fun _ _ => trivial, (h.hazs.sl hc_len).mono fun _ _ => trivial⟩
theorem Sl.lt_J {α : Type} {c : α → List Value} {size : Nat} {w : World} {v : Value} {l : List α} {P : Nat → Prop} (h : Sl c size w v l P) : Sl c size w v l (fun b => P b ∧ b < w.heap.size) := by
  obtain ⟨A, cap, e, h1, h2, h3⟩ := h
  refine ⟨A, cap, e, h1, h2, fun hn => ?_⟩
  obtain ⟨b, off, ea, hb, hP, hc⟩ := h3 hn
  exact ⟨b, off, ea, hb, ⟨hP, hb⟩, hc⟩
theorem js_init {wL w2 w3 : World} {x u : SheetM} (h : OwnS wL x u w2) (hw : w2.alloc (.cells #[.int .i64 u.hor, u.vs, u.vp, u.vd, u.vr, u.vt, u.vh] 29) = w3) :
    JS wL wL.heap.size w2.heap.size u.hor u.vs u.vp u.vd u.vr u.vt u.vh u.stops u.paths u.doors u.routes u.trips u.hazs u.routes w3 := by
  subst hw
  refine ⟨h.below.size, heap_alloc_new _ _, h.stops.alloc _, h.paths.alloc _, h.doors.alloc _, h.ro.alloc _, h.trips.alloc _, h.hazs.alloc _, fun r hr => ?_, h.below.alloc h.below.size _⟩
  have g := h.far r hr
  have g2 : r.Good w2 (fun b => (some b ≠ u.vs.ownBlock ∧ some b ≠ u.vp.ownBlock ∧ some b ≠ u.vd.ownBlock ∧ some b ≠ u.vr.ownBlock ∧ some b ≠ u.vt.ownBlock ∧ some b ≠ u.vh.ownBlock) ∧ b < w2.heap.size) := ⟨g.stops.lt_J, g.rides.lt_J, g.stays.lt_J⟩
  exact (g2.below_ ((Below.refl _ _).alloc (Nat.le_refl _) _)).mono fun b hb => ⟨Nat.ne_of_lt hb.2, hb.1.1, hb.1.2.1, hb.1.2.2.1, hb.1.2.2.2.1, hb.1.2.2.2.2.1, hb.1.2.2.2.2.2⟩
set_option maxHeartbeats 16000000 in
set_option maxRecDepth 100000 in
theorem sjoins_any (w : World) (x y : SheetM) {P Q : Nat → Prop} (hgx : x.Good w P) (hgy : y.Good w Q) (hmx : ∀ s ∈ namesD x.d, s.length ≤ maxLen) (hmy : ∀ s ∈ namesD y.d, s.length ≤ maxLen) (hT : Tabs w) (hL : LibOk w) :
    Calls Tryz.prog 4 #[x.v, y.v] w fun e w' => e = .returned (.bool true) ∧ Below w.heap.size w w' := by
  have HT := Lib.hid hT
  have HL := Lib.hid hL
  have HMX := Lib.hid hmx
  have HMY := Lib.hid hmy
  clear hT hL hmx hmy
  obtain ⟨Xs, Xs_, Xp, Xp_, Xd, Xd_, Xr, Xr_, Xt, Xt_, Xh, Xh_, exs, exp, exd, exr, ext, exh⟩ := SheetAt.forms hgx
  have Vx : x.v = .agg #[.int .i64 x.hor, .slice Xs x.stops.length Xs_, .slice Xp x.paths.length Xp_, .slice Xd x.doors.length Xd_, .slice Xr x.routes.length Xr_, .slice Xt x.trips.length Xt_, .slice Xh x.hazs.length Xh_] := by
    unfold SheetM.v; rw [exs, exp, exd, exr, ext, exh]
  rw [Vx]
  have HVx := Lib.hid Vx
  have HGx := Lib.hid hgx
  have HFx := Lib.hid (show x.vs = .slice Xs x.stops.length Xs_ ∧ x.vp = .slice Xp x.paths.length Xp_ ∧ x.vd = .slice Xd x.doors.length Xd_ ∧ x.vr = .slice Xr x.routes.length Xr_ ∧ x.vt = .slice Xt x.trips.length Xt_ ∧ x.vh = .slice Xh x.hazs.length Xh_ from ⟨exs, exp, exd, exr, ext, exh⟩)
  clear Vx hgx exs exp exd exr ext exh
  obtain ⟨Ys, Ys_, Yp, Yp_, Yd, Yd_, Yr, Yr_, Yt, Yt_, Yh, Yh_, eys, eyp, eyd, eyr, eyt, eyh⟩ := SheetAt.forms hgy
  have Vy : y.v = .agg #[.int .i64 y.hor, .slice Ys y.stops.length Ys_, .slice Yp y.paths.length Yp_, .slice Yd y.doors.length Yd_, .slice Yr y.routes.length Yr_, .slice Yt y.trips.length Yt_, .slice Yh y.hazs.length Yh_] := by
    unfold SheetM.v; rw [eys, eyp, eyd, eyr, eyt, eyh]
  rw [Vy]
  have HVy := Lib.hid Vy
  have HGy := Lib.hid hgy
  have HFy := Lib.hid (show y.vs = .slice Ys y.stops.length Ys_ ∧ y.vp = .slice Yp y.paths.length Yp_ ∧ y.vd = .slice Yd y.doors.length Yd_ ∧ y.vr = .slice Yr y.routes.length Yr_ ∧ y.vt = .slice Yt y.trips.length Yt_ ∧ y.vh = .slice Yh y.hazs.length Yh_ from ⟨eys, eyp, eyd, eyr, eyt, eyh⟩)
  clear Vy hgy eys eyp eyd eyr eyt eyh
  go_enter Tryz.func4, Tryz.ntmps4
  go_upto_region 1 with fail
  obtain ⟨w1, hwa⟩ : ∃ wa, (w.alloc (.cells #[.int .i64 x.hor, .slice Xs x.stops.length Xs_, .slice Xp x.paths.length Xp_, .slice Xd x.doors.length Xd_, .slice Xr x.routes.length Xr_, .slice Xt x.trips.length Xt_, .slice Xh x.hazs.length Xh_] 29)).alloc (.cells #[.int .i64 y.hor, .slice Ys y.stops.length Ys_, .slice Yp y.paths.length Yp_, .slice Yd y.doors.length Yd_, .slice Yr y.routes.length Yr_, .slice Yt y.trips.length Yt_, .slice Yh y.hazs.length Yh_] 29) = wa := ⟨_, rfl⟩
  have hba : Below w.heap.size w w1 := by rw [← hwa]; exact ((Below.refl _ _).alloc (Nat.le_refl _) _).alloc (by simp) _
  have hza : w1.heap.size = w.heap.size + 2 := by rw [← hwa]; simp
  have hA : w1.heap[w.heap.size]? = some (.cells #[.int .i64 x.hor, .slice Xs x.stops.length Xs_, .slice Xp x.paths.length Xp_, .slice Xd x.doors.length Xd_, .slice Xr x.routes.length Xr_, .slice Xt x.trips.length Xt_, .slice Xh x.hazs.length Xh_] 29 (0, 0)) := by rw [← hwa, Below.heap_alloc _ _ _ (by simp)]; exact heap_alloc_new _ _
  have hB : w1.heap[w.heap.size + 1]? = some (.cells #[.int .i64 y.hor, .slice Ys y.stops.length Ys_, .slice Yp y.paths.length Yp_, .slice Yd y.doors.length Yd_, .slice Yr y.routes.length Yr_, .slice Yt y.trips.length Yt_, .slice Yh y.hazs.length Yh_] 29 (0, 0)) := by
    rw [← hwa]
    have h := heap_alloc_new (w.alloc (.cells #[.int .i64 x.hor, .slice Xs x.stops.length Xs_, .slice Xp x.paths.length Xp_, .slice Xd x.doors.length Xd_, .slice Xr x.routes.length Xr_, .slice Xt x.trips.length Xt_, .slice Xh x.hazs.length Xh_] 29)) (.cells #[.int .i64 y.hor, .slice Ys y.stops.length Ys_, .slice Yp y.paths.length Yp_, .slice Yd y.doors.length Yd_, .slice Yr y.routes.length Yr_, .slice Yt y.trips.length Yt_, .slice Yh y.hazs.length Yh_] 29)
    rw [show (w.alloc (.cells #[.int .i64 x.hor, .slice Xs x.stops.length Xs_, .slice Xp x.paths.length Xp_, .slice Xd x.doors.length Xd_, .slice Xr x.routes.length Xr_, .slice Xt x.trips.length Xt_, .slice Xh x.hazs.length Xh_] 29)).heap.size = w.heap.size + 1 by simp] at h
    exact h
  have Cx := Lib.hid (fun (wy : World) (h : Below w1.heap.size w1 wy) => (show wy.cell? ⟨w.heap.size, 0, none⟩ = some (.int .i64 x.hor) ∧ wy.cell? ⟨w.heap.size, 1, none⟩ = some (.slice Xs x.stops.length Xs_) ∧ wy.cell? ⟨w.heap.size, 2, none⟩ = some (.slice Xp x.paths.length Xp_) ∧ wy.cell? ⟨w.heap.size, 3, none⟩ = some (.slice Xd x.doors.length Xd_) ∧ wy.cell? ⟨w.heap.size, 4, none⟩ = some (.slice Xr x.routes.length Xr_) ∧ wy.cell? ⟨w.heap.size, 5, none⟩ = some (.slice Xt x.trips.length Xt_) ∧ wy.cell? ⟨w.heap.size, 6, none⟩ = some (.slice Xh x.hazs.length Xh_) from ⟨(h.cell (p := ⟨w.heap.size, 0, none⟩) (by show w.heap.size < _; omega)).trans (Lib.cell_of_heap hA 0), (h.cell (p := ⟨w.heap.size, 1, none⟩) (by show w.heap.size < _; omega)).trans (Lib.cell_of_heap hA 1), (h.cell (p := ⟨w.heap.size, 2, none⟩) (by show w.heap.size < _; omega)).trans (Lib.cell_of_heap hA 2), (h.cell (p := ⟨w.heap.size, 3, none⟩) (by show w.heap.size < _; omega)).trans (Lib.cell_of_heap hA 3), (h.cell (p := ⟨w.heap.size, 4, none⟩) (by show w.heap.size < _; omega)).trans (Lib.cell_of_heap hA 4), (h.cell (p := ⟨w.heap.size, 5, none⟩) (by show w.heap.size < _; omega)).trans (Lib.cell_of_heap hA 5), (h.cell (p := ⟨w.heap.size, 6, none⟩) (by show w.heap.size < _; omega)).trans (Lib.cell_of_heap hA 6)⟩))
  have Cy := Lib.hid (fun (wy : World) (h : Below w1.heap.size w1 wy) => (show wy.cell? ⟨w.heap.size + 1, 0, none⟩ = some (.int .i64 y.hor) ∧ wy.cell? ⟨w.heap.size + 1, 1, none⟩ = some (.slice Ys y.stops.length Ys_) ∧ wy.cell? ⟨w.heap.size + 1, 2, none⟩ = some (.slice Yp y.paths.length Yp_) ∧ wy.cell? ⟨w.heap.size + 1, 3, none⟩ = some (.slice Yd y.doors.length Yd_) ∧ wy.cell? ⟨w.heap.size + 1, 4, none⟩ = some (.slice Yr y.routes.length Yr_) ∧ wy.cell? ⟨w.heap.size + 1, 5, none⟩ = some (.slice Yt y.trips.length Yt_) ∧ wy.cell? ⟨w.heap.size + 1, 6, none⟩ = some (.slice Yh y.hazs.length Yh_) from ⟨(h.cell (p := ⟨w.heap.size + 1, 0, none⟩) (by show w.heap.size + 1 < _; omega)).trans (Lib.cell_of_heap hB 0), (h.cell (p := ⟨w.heap.size + 1, 1, none⟩) (by show w.heap.size + 1 < _; omega)).trans (Lib.cell_of_heap hB 1), (h.cell (p := ⟨w.heap.size + 1, 2, none⟩) (by show w.heap.size + 1 < _; omega)).trans (Lib.cell_of_heap hB 2), (h.cell (p := ⟨w.heap.size + 1, 3, none⟩) (by show w.heap.size + 1 < _; omega)).trans (Lib.cell_of_heap hB 3), (h.cell (p := ⟨w.heap.size + 1, 4, none⟩) (by show w.heap.size + 1 < _; omega)).trans (Lib.cell_of_heap hB 4), (h.cell (p := ⟨w.heap.size + 1, 5, none⟩) (by show w.heap.size + 1 < _; omega)).trans (Lib.cell_of_heap hB 5), (h.cell (p := ⟨w.heap.size + 1, 6, none⟩) (by show w.heap.size + 1 < _; omega)).trans (Lib.cell_of_heap hB 6)⟩))
  have HGX := Lib.hid (HGx.out.below_ hba)
  have HGY := Lib.hid (HGy.out.below_ hba)
  clear HGx HGy
  have HBw1 := Lib.hid hba
  try rw [hwa]
  clear hwa hba hza hA hB
  go_wp2_with fail
  refine (lives_any w1 (HT.out.below HBw1.out) (HL.out.below HBw1.out)).mono ?_
  rintro e w2 ⟨rfl, hb⟩
  have N2 := Lib.hid hb
  clear hb
  obtain ⟨x0, x1, x2, x3, x4, x5, x6⟩ := Cx.out w2 N2.out
  have HLI := Lib.hid (HVx.out ▸ light_any w2 x (HGX.out.below_ N2.out))
  go_wp2_with fail
  refine HLI.out.mono ?_
  rintro e w3 ⟨rfl, hb⟩
  have N3 := Lib.hid (N2.out.trans (hb.mono N2.out.size))
  clear hb HLI x0 x1 x2 x3 x4 x5 x6
  rcases hl : lightD x.d 60
  · go_wp2_with fail
    go_ret
    exact ⟨rfl, HBw1.out.trans (N3.out.mono HBw1.out.size)⟩
  have HLX := Lib.hid hl
  clear hl
  obtain ⟨y0, y1, y2, y3, y4, y5, y6⟩ := Cy.out w3 N3.out
  have HLI := Lib.hid (HVy.out ▸ light_any w3 y (HGY.out.below_ N3.out))
  go_wp2_with fail
  refine HLI.out.mono ?_
  rintro e w4 ⟨rfl, hb⟩
  have N4 := Lib.hid (N3.out.trans (hb.mono N3.out.size))
  clear hb HLI y0 y1 y2 y3 y4 y5 y6
  rcases hl : lightD y.d 60
  · go_wp2_with fail
    go_ret
    exact ⟨rfl, HBw1.out.trans (N4.out.mono HBw1.out.size)⟩
  have HLY := Lib.hid hl
  clear hl
  obtain ⟨x0, x1, x2, x3, x4, x5, x6⟩ := Cx.out w4 N4.out
  have HCK := Lib.hid (HVx.out ▸ zcheck_any w4 x (HGX.out.below_ N4.out) (light_few HLX.out) (light_long HLX.out) HMX.out)
  go_wp2_with fail
  refine HCK.out.mono ?_
  rintro e w5 ⟨rfl, hb⟩
  have N5 := Lib.hid (N4.out.trans (hb.mono N4.out.size))
  clear hb HCK x0 x1 x2 x3 x4 x5 x6
  by_cases hc : checkD x.d = 0
  rotate_left 1
  · have q0 : (checkD x.d == 0) = false := beq_eq_false_iff_ne.2 hc
    have q1 : (checkD x.d != 0) = true := by rw [bne, q0]; rfl
    clear hc
    go_wp2_with fail
    go_ret
    exact ⟨rfl, HBw1.out.trans (N5.out.mono HBw1.out.size)⟩
  have HCX := Lib.hid hc
  rw [hc]
  clear hc
  obtain ⟨y0, y1, y2, y3, y4, y5, y6⟩ := Cy.out w5 N5.out
  have HCK := Lib.hid (HVy.out ▸ zcheck_any w5 y (HGY.out.below_ N5.out) (light_few HLY.out) (light_long HLY.out) HMY.out)
  go_wp2_with fail
  refine HCK.out.mono ?_
  rintro e w6 ⟨rfl, hb⟩
  have N6 := Lib.hid (N5.out.trans (hb.mono N5.out.size))
  clear hb HCK y0 y1 y2 y3 y4 y5 y6
  by_cases hc : checkD y.d = 0
  rotate_left 1
  · have q0 : (checkD y.d == 0) = false := beq_eq_false_iff_ne.2 hc
    have q1 : (checkD y.d != 0) = true := by rw [bne, q0]; rfl
    clear hc
    go_wp2_with fail
    go_ret
    exact ⟨rfl, HBw1.out.trans (N6.out.mono HBw1.out.size)⟩
  have HCY := Lib.hid hc
  rw [hc]
  clear hc
  have HTX := Lib.hid (fun (wy : World) (h : Below w1.heap.size w1 wy) => HVx.out ▸ sthings_any wy x (HGX.out.below_ h) (light_few HLX.out))
  have HTY := Lib.hid (fun (wy : World) (h : Below w1.heap.size w1 wy) => HVy.out ▸ sthings_any wy y (HGY.out.below_ h) (light_few HLY.out))
  have HDX := Lib.hid (lines_len x.d)
  have HDY := Lib.hid (lines_len y.d)
  have HJT := Lib.hid (join_things x.d y.d)
  obtain ⟨tx, htx⟩ : ∃ t, thingsD x.d = t := ⟨_, rfl⟩
  obtain ⟨ty, hty⟩ : ∃ t, thingsD y.d = t := ⟨_, rfl⟩
  rw [htx] at HTX HDX
  rw [hty] at HTY HDY
  rw [htx, hty] at HJT
  clear htx hty
  have htx6 : tx ≤ 6200 := by have h1 := linesD_len x (light_few HLX.out); have := HDX.out; omega
  have hty6 : ty ≤ 6200 := by have h1 := linesD_len y (light_few HLY.out); have := HDY.out; omega
  have HC := Lib.hid (fun (wy : World) (h : Below w6.heap.size w6 wy) => And.intro (Cx.out wy (N6.out.trans (h.mono N6.out.size))) (Cy.out wy (N6.out.trans (h.mono N6.out.size))))
  go_upto_region 5 with fail
  have hSw : Below w6.heap.size w6 w6 := Below.refl _ _
  refine wp_region_kinds (fun wy => Below w6.heap.size w6 wy) [1, 3] [] [0, 2] [4, 5] [0, 2, 1, 3, 4, 5] (by kernel_rfl) (by kernel_rfl) (fun w n h => below_drewN h n) ?_
  repeat (first | (refine wpKind_free (v := ?_) (by rfl) rfl (by rfl) ?_ ?_; rotate_left 1; (focus (intro wy; go_simp; try with_reducible rfl; done)); try simp only [Act.put, List.setIfInBounds_toArray, List.set_cons_zero, List.set_cons_succ]) | (refine wpKind_held (v := ?_) (by rfl) rfl (by rfl) hSw ?_ ?_; rotate_left 1; (focus (intro wy hSy; obtain ⟨⟨x0, x1, x2, x3, x4, x5, x6⟩, y0, y1, y2, y3, y4, y5, y6⟩ := HC.out wy hSy; go_simp; try with_reducible rfl; done)); try simp only [Act.put, List.setIfInBounds_toArray, List.set_cons_zero, List.set_cons_succ]))
  clear hSw
  refine wpKind_keeps (by rfl) rfl (fun m1 => ?_)
  have hn1 : Below w1.heap.size w1 (w6.drewN m1) := below_drewN N6.out m1
  have hkl := HVx.out ▸ klines_any (w6.drewN m1) x (HGX.out.below_ hn1) (light_few HLX.out) HCX.out
  have HKL := Lib.hid hkl
  have HN1 := Lib.hid hn1
  clear hkl hn1
  go_wp2_with fail
  refine HKL.out.mono ?_
  rintro e w7 ⟨va, rfl, ho, hb⟩
  have K7 := Lib.hid (show Below w6.heap.size w6 w7 from (below_drewN (Below.refl w6.heap.size w6) m1).trans hb)
  have HSA := Lib.hid (show Sl nc 1 w7 va (linesD x.d) (fun _ => True) from (ho.sl nc_len).mono fun _ _ => trivial)
  clear hb ho HKL HN1
  go_wp2_with fail
  show _ ∧ _
  refine ⟨K7.out, ?_⟩
  have hSw := K7.out
  repeat (first | (refine wpKind_free (v := ?_) (by rfl) rfl (by rfl) ?_ ?_; rotate_left 1; (focus (intro wy; go_simp; try with_reducible rfl; done)); try simp only [Act.put, List.setIfInBounds_toArray, List.set_cons_zero, List.set_cons_succ]) | (refine wpKind_held (v := ?_) (by rfl) rfl (by rfl) hSw ?_ ?_; rotate_left 1; (focus (intro wy hSy; obtain ⟨⟨x0, x1, x2, x3, x4, x5, x6⟩, y0, y1, y2, y3, y4, y5, y6⟩ := HC.out wy hSy; go_simp; try with_reducible rfl; done)); try simp only [Act.put, List.setIfInBounds_toArray, List.set_cons_zero, List.set_cons_succ]))
  clear hSw
  refine wpKind_keeps (by rfl) rfl (fun m2 => ?_)
  have hn1 : Below w1.heap.size w1 (w7.drewN m2) := below_drewN (N6.out.trans (K7.out.mono N6.out.size)) m2
  have hkl := HVy.out ▸ klines_any (w7.drewN m2) y (HGY.out.below_ hn1) (light_few HLY.out) HCY.out
  have HKL := Lib.hid hkl
  clear hkl hn1
  go_wp2_with fail
  refine HKL.out.mono ?_
  rintro e w8 ⟨vb, rfl, ho, hb⟩
  have K8 := Lib.hid (show Below w6.heap.size w6 w8 from (below_drewN K7.out m2).trans (hb.mono (by exact K7.out.size)))
  have HSA8 := Lib.hid ((HSA.out.drewN m2).below_ hb)
  have HSB8 := Lib.hid (show Sl nc 1 w8 vb (linesD y.d) (fun _ => True) from (ho.sl nc_len).mono fun _ _ => trivial)
  clear hb ho HKL HSA
  go_wp2_with fail
  show _ ∧ _
  refine ⟨K8.out, ?_⟩
  have hSw := K8.out
  repeat (first | (refine wpKind_free (v := ?_) (by rfl) rfl (by rfl) ?_ ?_; rotate_left 1; (focus (intro wy; go_simp; try with_reducible rfl; done)); try simp only [Act.put, List.setIfInBounds_toArray, List.set_cons_zero, List.set_cons_succ]) | (refine wpKind_held (v := ?_) (by rfl) rfl (by rfl) hSw ?_ ?_; rotate_left 1; (focus (intro wy hSy; obtain ⟨⟨x0, x1, x2, x3, x4, x5, x6⟩, y0, y1, y2, y3, y4, y5, y6⟩ := HC.out wy hSy; go_simp; try with_reducible rfl; done)); try simp only [Act.put, List.setIfInBounds_toArray, List.set_cons_zero, List.set_cons_succ]))
  clear hSw
  refine wpKind_nil fun n9 => ?_
  have N8 := Lib.hid (below_drewN (N6.out.trans (K8.out.mono N6.out.size)) n9)
  have HSA := Lib.hid (HSA8.out.drewN n9)
  have HSB := Lib.hid (HSB8.out.drewN n9)
  clear K7 K8 HSA8 HSB8 HC
  generalize w8.drewN n9 = w9 at *
  have hsa := HSA.out
  have hsb := HSB.out
  clear HSA HSB
  obtain ⟨b1, o1, c1, rfl, _, _, hlb1, _, hl1⟩ := hsa.form (by have := HDX.out; omega)
  obtain ⟨b2, o2, c2, rfl, _, _, hlb2, _, hl2⟩ := hsb.form (by have := HDY.out; omega)
  have HLA := Lib.hid (show b1 < w9.heap.size ∧ ∀ (k : Nat) (h : k < (linesD x.d).length), w9.cell? ⟨b1, o1 + k, none⟩ = some (.string (ba (linesD x.d)[k])) from ⟨hlb1, fun k h => by simpa using hl1 k _ (List.getElem?_eq_getElem h) 0 _ rfl⟩)
  have HLB := Lib.hid (show b2 < w9.heap.size ∧ ∀ (k : Nat) (h : k < (linesD y.d).length), w9.cell? ⟨b2, o2 + k, none⟩ = some (.string (ba (linesD y.d)[k])) from ⟨hlb2, fun k h => by simpa using hl2 k _ (List.getElem?_eq_getElem h) 0 _ rfl⟩)
  rw [HDX.out, HDY.out]
  clear hsa hsb hlb1 hlb2 hl1 hl2
  obtain ⟨x0, x1, x2, x3, x4, x5, x6⟩ := Cx.out w9 N8.out
  go_wp2_with fail
  refine (HTX.out w9 N8.out).mono ?_
  rintro e w10 ⟨rfl, hb⟩
  have N10 := Lib.hid (N8.out.trans (hb.mono N8.out.size))
  have M10 := Lib.hid hb
  clear hb x0 x1 x2 x3 x4 x5 x6
  obtain ⟨y0, y1, y2, y3, y4, y5, y6⟩ := Cy.out w10 N10.out
  have q1 : (((tx + 1 : Nat) : Int) != (tx : Int) + 1) = false := by simp
  have q2 : (((tx : Nat) : Int) + 1 != (tx : Int) + 1) = false := by simp
  have q3 : (((ty + 1 : Nat) : Int) != (ty : Int) + 1) = false := by simp
  have q4 : (((ty : Nat) : Int) + 1 != (ty : Int) + 1) = false := by simp
  go_wp2_with fail
  refine (HTY.out w10 N10.out).mono ?_
  rintro e w11 ⟨rfl, hb⟩
  have N11 := Lib.hid (N10.out.trans (hb.mono N10.out.size))
  have M11 := Lib.hid (M10.out.trans (hb.mono M10.out.size))
  clear hb y0 y1 y2 y3 y4 y5 y6 M10
  have HLEX := Lib.hid (linesD_le x HCX.out)
  have HLEY := Lib.hid (linesD_le y HCY.out)
  have HPJ := Lib.hid (join_back HCX.out HCY.out (light_join HLX.out HLY.out))
  generalize linesD x.d = DX at *
  generalize linesD y.d = DY at *
  have HTS := Lib.hid (fun k => tx_small DX HLEX.out (by have := HDX.out; omega) k)
  go_wp2_with fail
  go_loopg [8, 7] (tx + 1) (fun gg v8 v7 wr => ∃ k : Nat, k ≤ tx + 1 ∧ tx + 1 - k ≤ gg ∧ v8 = .int .i64 k ∧ v7 = .string (ba (textL (DX.take k))) ∧ wr = w11)
  case atStart => exact ⟨0, Nat.zero_le _, Nat.le_refl _, rfl, rfl, rfl⟩
  case round =>
    obtain ⟨k, hk, hgg, rfl, rfl, rfl⟩ := hrel
    by_cases hlt : k < tx + 1
    · have hkd : k < DX.length := by have := HDX.out; omega
      have hx0 := (M11.out.cell (p := ⟨b1, o1 + k, none⟩) HLA.out.1).trans (HLA.out.2 k hkd)
      have q1 : (0 : Int) ≤ (k : Int) := by omega
      have q2 : (k : Int) < (tx : Int) + 1 := by omega
      have HE := Lib.hid (take_succ_eq DX k hkd)
      have zy : (ba DX[k]).size ≤ 4000 := by rw [ba_size]; exact HLEX.out _ (List.getElem_mem _)
      have z1 := HTS.out k
      obtain ⟨l, hl⟩ : ∃ l, DX[k] = l := ⟨_, rfl⟩
      rw [hl] at hx0 zy HE
      have HT2 := Lib.hid (text_snoc (DX.take k) l)
      generalize DX.take k = A at *
      have z2 : (ba (textL A) ++ ba l).size ≤ 24814201 := by rw [ByteArray.size_append]; exact Nat.add_le_add z1 zy
      have z3 : (ba (textL A) ++ ba l ++ ⟨#[10]⟩).size ≤ 24814202 := by rw [ByteArray.size_append]; exact Nat.add_le_add z2 (Nat.le_refl _)
      clear hl
      go_wp2_with fail
      go_roundg (tx + 1 - (k + 1))
      case measure => omega
      case rel => exact ⟨k + 1, by omega, Nat.le_refl _, by go_num, by rw [HE.out, ← HT2.out], rfl⟩
    · have hke : k = tx + 1 := by omega
      subst hke
      have HE := Lib.hid (show DX.take (tx + 1) = DX from List.take_of_length_le (by have := HDX.out; omega))
      rw [HE.out]
      have hA := HTS.out (tx + 1)
      rw [HE.out, ba_size] at hA
      have HTS2 := Lib.hid (fun k => tx2_small DX DY hA HLEY.out (by have := HDY.out; omega) k)
      clear hA HE HTS hgg hk hlt
      have HD1 := Lib.hid (show DX = DX ++ (DY.take 1).drop 1 by rw [List.drop_eq_nil_of_le (by rw [List.length_take]; omega), List.append_nil])
      go_wp2_with fail
      go_loopg [9, 7] (ty + 1) (fun gg v9 v7 wx => ∃ k : Nat, 1 ≤ k ∧ k ≤ ty + 1 ∧ ty + 1 - k ≤ gg ∧ v9 = .int .i64 k ∧ v7 = .string (ba (textL (DX ++ (DY.take k).drop 1))) ∧ wx = wr)
      case atStart => exact ⟨1, Nat.le_refl _, by omega, by omega, rfl, by rw [← HD1.out], rfl⟩
      case round =>
        obtain ⟨k, hk1, hk, hgg, rfl, rfl, rfl⟩ := hrel
        clear HD1
        by_cases hlt : k < ty + 1
        · have hkd : k < DY.length := by have := HDY.out; omega
          have hx0 := (M11.out.cell (p := ⟨b2, o2 + k, none⟩) HLB.out.1).trans (HLB.out.2 k hkd)
          have q1 : (0 : Int) ≤ (k : Int) := by omega
          have q2 : (k : Int) < (ty : Int) + 1 := by omega
          have HE := Lib.hid (drop_step DY k hk1 hkd)
          have zy : (ba DY[k]).size ≤ 4000 := by rw [ba_size]; exact HLEY.out _ (List.getElem_mem _)
          have z1 := HTS2.out k
          obtain ⟨l, hl⟩ : ∃ l, DY[k] = l := ⟨_, rfl⟩
          rw [hl] at hx0 zy HE
          have HT2 := Lib.hid (text_snoc (DX ++ (DY.take k).drop 1) l)
          have HAS := Lib.hid (List.append_assoc DX ((DY.take k).drop 1) [l])
          generalize hG : DX ++ (DY.take k).drop 1 = A at *
          have z2 : (ba (textL A) ++ ba l).size ≤ 49624402 := by rw [ByteArray.size_append]; exact Nat.add_le_add z1 zy
          have z3 : (ba (textL A) ++ ba l ++ ⟨#[10]⟩).size ≤ 49624403 := by rw [ByteArray.size_append]; exact Nat.add_le_add z2 (Nat.le_refl _)
          clear hl hG
          go_wp2_with fail
          go_roundg (ty + 1 - (k + 1))
          case measure => omega
          case rel => exact ⟨k + 1, by omega, by omega, Nat.le_refl _, by go_num, by rw [HE.out, ← HAS.out, ← HT2.out], rfl⟩
        · have hke : k = ty + 1 := by omega
          subst hke
          have HE := Lib.hid (show DY.take (ty + 1) = DY from List.take_of_length_le (by have := HDY.out; omega))
          have z9 := HTS2.out (ty + 1)
          rw [HE.out] at z9 ⊢
          clear HE HTS2 hgg hk hlt hk1
          obtain ⟨S, hS⟩ : ∃ S, ba (textL (DX ++ DY.drop 1)) = S := ⟨_, rfl⟩
          have HPS := Lib.hid (HPJ.out S (by rw [← hS]; rfl))
          rw [hS] at z9 ⊢
          clear hS HPJ M11 HLA HLB HLEX HLEY
          obtain ⟨x0, x1, x2, x3, x4, x5, x6⟩ := Cx.out wr N11.out
          have HOW := Lib.hid (HVx.out ▸ ownSheet_any wr x (HGX.out.below_ N11.out) (light_few HLX.out))
          go_wp2_with fail
          refine HOW.out.mono ?_
          rintro e w12 ⟨u, rfl, hou⟩
          have HOU := Lib.hid hou
          have hgu := hou.goodJ
          have HUD := Lib.hid (d_parts hou.d)
          clear hou HOW x0 x1 x2 x3 x4 x5 x6
          obtain ⟨Us, Us_, Up, Up_, Ud, Ud_, Ur, Ur_, Ut, Ut_, Uh, Uh_, eus, eup, eud, eur, eut, euh⟩ := SheetAt.forms hgu
          have Vu : u.v = .agg #[.int .i64 u.hor, .slice Us u.stops.length Us_, .slice Up u.paths.length Up_, .slice Ud u.doors.length Ud_, .slice Ur u.routes.length Ur_, .slice Ut u.trips.length Ut_, .slice Uh u.hazs.length Uh_] := by
            unfold SheetM.v; rw [eus, eup, eud, eur, eut, euh]
          rw [Vu]
          have HVu := Lib.hid Vu
          have HGu := Lib.hid hgu
          have HFu := Lib.hid (show u.vs = .slice Us u.stops.length Us_ ∧ u.vp = .slice Up u.paths.length Up_ ∧ u.vd = .slice Ud u.doors.length Ud_ ∧ u.vr = .slice Ur u.routes.length Ur_ ∧ u.vt = .slice Ut u.trips.length Ut_ ∧ u.vh = .slice Uh u.hazs.length Uh_ from ⟨eus, eup, eud, eur, eut, euh⟩)
          clear Vu hgu eus eup eud eur eut euh
          go_upto_region 18 with fail
          obtain ⟨w13, hwa⟩ : ∃ wa, w12.alloc (.cells #[.int .i64 u.hor, .slice Us u.stops.length Us_, .slice Up u.paths.length Up_, .slice Ud u.doors.length Ud_, .slice Ur u.routes.length Ur_, .slice Ut u.trips.length Ut_, .slice Uh u.hazs.length Uh_] 29) = wa := ⟨_, rfl⟩
          rw [hwa]
          obtain ⟨e1, e2, e3, e4, e5, e6⟩ := HFu.out
          rw [← e1, ← e2, ← e3, ← e4, ← e5, ← e6] at hwa
          have hj := js_init HOU.out hwa
          rw [e1, e2, e3, e4, e5, e6] at hj
          have HJ0 := Lib.hid hj
          clear hj hwa e1 e2 e3 e4 e5 e6 HGu HVu HFu
          have hlx := light_parts HLX.out
          have hly := light_parts HLY.out
          obtain ⟨⟨a1, a2, a3, a4, a5, a6⟩, _⟩ := hlx
          obtain ⟨⟨k1, k2, k3, k4, k5, k6⟩, _⟩ := hly
          have a4u : u.routes.length = x.routes.length := by have := congrArg List.length HUD.out.2.2.2.2.1; simpa [SheetM.d] using this
          have HLEN := Lib.hid (show (u.stops.length ≤ 60 ∧ u.paths.length ≤ 60 ∧ u.doors.length ≤ 60 ∧ u.routes.length ≤ 60 ∧ u.trips.length ≤ 60 ∧ u.hazs.length ≤ 60) ∧ y.stops.length ≤ 60 ∧ y.paths.length ≤ 60 ∧ y.doors.length ≤ 60 ∧ y.routes.length ≤ 60 ∧ y.trips.length ≤ 60 ∧ y.hazs.length ≤ 60 from
            ⟨⟨by rw [HUD.out.2.1]; exact a1, by rw [HUD.out.2.2.1]; exact a2, by rw [HUD.out.2.2.2.1]; exact a3, by omega, by rw [HUD.out.2.2.2.2.2.1]; exact a5, by rw [HUD.out.2.2.2.2.2.2]; exact a6⟩, k1, k2, k3, k4, k5, k6⟩)
          clear a1 a2 a3 a4 a5 a6 k1 k2 k3 k4 k5 k6 a4u
          have HN0 := Lib.hid (N11.out.trans (HJ0.out.below.mono N11.out.size))
          have HY0 := Lib.hid (show Sl nc 1 w13 (.slice Ys y.stops.length Ys_) y.stops _ from (HFy.out.1 ▸ (HGY.out.below_ HN0.out).stops))
          obtain ⟨y0, y1, y2, y3, y4, y5, y6⟩ := Cy.out w13 HN0.out
          have c0 := Lib.cell_of_heap HJ0.out.at_ 1
          obtain ⟨i0, hi0, hz0, hz1, hz2⟩ := info_parts info_string
          have hsz := HJ0.out.below.size
          have HSZ := Lib.hid hsz
          clear hsz
          go_upto_region 19 with (at_builtin; refine wpList_append_sl _ rfl _ _ _ rfl wr.heap.size 9 i0 _ 16 Tryz.underlying22 hi0 hz0 hz1 hz2 (by rfl) (by omega) nc_len nc_one _ _ u.stops y.stops rfl rfl HJ0.out.s HY0.out (by have h1 := HLEN.out.1.1; have h2 := HLEN.out.2.1; simp only [maxLen]; omega) (by have h1 := HLEN.out.1.1; have h2 := HLEN.out.2.1; omega) (by exact HSZ.out) ?_; intro v1 w14 hown hg hm; obtain ⟨A0, n0, p0, ev⟩ := ow_form hown; subst ev; have q6 := HJ0.out.qs hg; have q7 := Lib.cell_of_heap q6 1; have q8 := Lib.frozen_of_heap q6 1)
          have hj := HJ0.out.app_s hown hg hm
          obtain ⟨w15, hw⟩ : ∃ w, w14.setCell ⟨w12.heap.size, 1, none⟩ (.slice A0 n0 p0) = w := ⟨_, rfl⟩
          rw [hw] at hj ⊢
          have HJ1 := Lib.hid hj
          clear hj hw hown hg hm q6 q7 q8 y0 y1 y2 y3 y4 y5 y6 c0 hi0 hz0 hz1 hz2 HY0 HJ0 HSZ
          have HN1 := Lib.hid (N11.out.trans (HJ1.out.below.mono N11.out.size))
          have HY1 := Lib.hid (show Sl pc 4 w15 (.slice Yp y.paths.length Yp_) y.paths _ from (HFy.out.2.1 ▸ (HGY.out.below_ HN1.out).paths))
          obtain ⟨y0, y1, y2, y3, y4, y5, y6⟩ := Cy.out w15 HN1.out
          have c1 := Lib.cell_of_heap HJ1.out.at_ 2
          obtain ⟨i0, hi0, hz0, hz1, hz2⟩ := info_parts info_path
          have hsz := HJ1.out.below.size
          have HSZ := Lib.hid hsz
          clear hsz
          go_upto_region 20 with (at_builtin; refine wpList_append_sl _ rfl _ _ _ rfl wr.heap.size 61 i0 _ 56 Tryz.underlying23 hi0 hz0 hz1 hz2 (by rfl) (by omega) pc_len pc_one _ _ u.paths y.paths rfl rfl HJ1.out.p HY1.out (by have h1 := HLEN.out.1.2.1; have h2 := HLEN.out.2.2.1; simp only [maxLen]; omega) (by have h1 := HLEN.out.1.2.1; have h2 := HLEN.out.2.2.1; omega) (by exact HSZ.out) ?_; intro v1 w16 hown hg hm; obtain ⟨A1, n1, p1, ev⟩ := ow_form hown; subst ev; have q6 := HJ1.out.qp hg; have q7 := Lib.cell_of_heap q6 2; have q8 := Lib.frozen_of_heap q6 2)
          have hj := HJ1.out.app_p hown hg hm
          obtain ⟨w17, hw⟩ : ∃ w, w16.setCell ⟨w12.heap.size, 2, none⟩ (.slice A1 n1 p1) = w := ⟨_, rfl⟩
          rw [hw] at hj ⊢
          have HJ2 := Lib.hid hj
          clear hj hw hown hg hm q6 q7 q8 y0 y1 y2 y3 y4 y5 y6 c1 hi0 hz0 hz1 hz2 HY1 HJ1 HSZ
          have HN2 := Lib.hid (N11.out.trans (HJ2.out.below.mono N11.out.size))
          have HY2 := Lib.hid (show Sl dc 7 w17 (.slice Yd y.doors.length Yd_) y.doors _ from (HFy.out.2.2.1 ▸ (HGY.out.below_ HN2.out).doors))
          obtain ⟨y0, y1, y2, y3, y4, y5, y6⟩ := Cy.out w17 HN2.out
          have c2 := Lib.cell_of_heap HJ2.out.at_ 3
          obtain ⟨i0, hi0, hz0, hz1, hz2⟩ := info_parts info_door
          have hsz := HJ2.out.below.size
          have HSZ := Lib.hid hsz
          clear hsz
          go_upto_region 21 with (at_builtin; refine wpList_append_sl _ rfl _ _ _ rfl wr.heap.size 50 i0 _ 80 Tryz.underlying24 hi0 hz0 hz1 hz2 (by rfl) (by omega) dc_len dc_one _ _ u.doors y.doors rfl rfl HJ2.out.d HY2.out (by have h1 := HLEN.out.1.2.2.1; have h2 := HLEN.out.2.2.2.1; simp only [maxLen]; omega) (by have h1 := HLEN.out.1.2.2.1; have h2 := HLEN.out.2.2.2.1; omega) (by exact HSZ.out) ?_; intro v1 w18 hown hg hm; obtain ⟨A2, n2, p2, ev⟩ := ow_form hown; subst ev; have q6 := HJ2.out.qd hg; have q7 := Lib.cell_of_heap q6 3; have q8 := Lib.frozen_of_heap q6 3)
          have hj := HJ2.out.app_d hown hg hm
          obtain ⟨w19, hw⟩ : ∃ w, w18.setCell ⟨w12.heap.size, 3, none⟩ (.slice A2 n2 p2) = w := ⟨_, rfl⟩
          rw [hw] at hj ⊢
          have HJ3 := Lib.hid hj
          clear hj hw hown hg hm q6 q7 q8 y0 y1 y2 y3 y4 y5 y6 c2 hi0 hz0 hz1 hz2 HY2 HJ2 HSZ
          have HN3 := Lib.hid (N11.out.trans (HJ3.out.below.mono N11.out.size))
          have HY3 := Lib.hid (show Sl rcN 4 w19 (.slice Yr y.routes.length Yr_) y.routes _ from (HFy.out.2.2.2.1 ▸ (HGY.out.below_ HN3.out).routes).congr fun r hr => (rcN_eq (HGY.out.each r hr)).symm)
          obtain ⟨y0, y1, y2, y3, y4, y5, y6⟩ := Cy.out w19 HN3.out
          have c3 := Lib.cell_of_heap HJ3.out.at_ 4
          obtain ⟨i0, hi0, hz0, hz1, hz2⟩ := info_parts info_route
          have hsz := HJ3.out.below.size
          have HSZ := Lib.hid hsz
          clear hsz
          go_upto_region 22 with (at_builtin; refine wpList_append_sl _ rfl _ _ _ rfl wr.heap.size 57 i0 _ 88 Tryz.underlying25 hi0 hz0 hz1 hz2 (by rfl) (by omega) rcN_len rcN_one _ _ u.routes y.routes rfl rfl HJ3.out.r HY3.out (by have h1 := HLEN.out.1.2.2.2.1; have h2 := HLEN.out.2.2.2.2.1; simp only [maxLen]; omega) (by have h1 := HLEN.out.1.2.2.2.1; have h2 := HLEN.out.2.2.2.2.1; omega) (by exact HSZ.out) ?_; intro v1 w20 hown hg hm; obtain ⟨A3, n3, p3, ev⟩ := ow_form hown; subst ev; have q6 := HJ3.out.qr hg; have q7 := Lib.cell_of_heap q6 4; have q8 := Lib.frozen_of_heap q6 4)
          have hj := HJ3.out.app_r hown hg hm
          obtain ⟨w21, hw⟩ : ∃ w, w20.setCell ⟨w12.heap.size, 4, none⟩ (.slice A3 n3 p3) = w := ⟨_, rfl⟩
          rw [hw] at hj ⊢
          have HJ4 := Lib.hid hj
          clear hj hw hown hg hm q6 q7 q8 y0 y1 y2 y3 y4 y5 y6 c3 hi0 hz0 hz1 hz2 HY3 HJ3 HSZ
          have HN4 := Lib.hid (N11.out.trans (HJ4.out.below.mono N11.out.size))
          have HY4 := Lib.hid (show Sl trc 5 w21 (.slice Yt y.trips.length Yt_) y.trips _ from (HFy.out.2.2.2.2.1 ▸ (HGY.out.below_ HN4.out).trips))
          obtain ⟨y0, y1, y2, y3, y4, y5, y6⟩ := Cy.out w21 HN4.out
          have c4 := Lib.cell_of_heap HJ4.out.at_ 5
          obtain ⟨i0, hi0, hz0, hz1, hz2⟩ := info_parts info_trip
          have hsz := HJ4.out.below.size
          have HSZ := Lib.hid hsz
          clear hsz
          go_upto_region 23 with (at_builtin; refine wpList_append_sl _ rfl _ _ _ rfl wr.heap.size 52 i0 _ 56 Tryz.underlying26 hi0 hz0 hz1 hz2 (by rfl) (by omega) trc_len trc_one _ _ u.trips y.trips rfl rfl HJ4.out.t HY4.out (by have h1 := HLEN.out.1.2.2.2.2.1; have h2 := HLEN.out.2.2.2.2.2.1; simp only [maxLen]; omega) (by have h1 := HLEN.out.1.2.2.2.2.1; have h2 := HLEN.out.2.2.2.2.2.1; omega) (by exact HSZ.out) ?_; intro v1 w22 hown hg hm; obtain ⟨A4, n4, p4, ev⟩ := ow_form hown; subst ev; have q6 := HJ4.out.qt hg; have q7 := Lib.cell_of_heap q6 5; have q8 := Lib.frozen_of_heap q6 5)
          have hj := HJ4.out.app_t hown hg hm
          obtain ⟨w23, hw⟩ : ∃ w, w22.setCell ⟨w12.heap.size, 5, none⟩ (.slice A4 n4 p4) = w := ⟨_, rfl⟩
          rw [hw] at hj ⊢
          have HJ5 := Lib.hid hj
          clear hj hw hown hg hm q6 q7 q8 y0 y1 y2 y3 y4 y5 y6 c4 hi0 hz0 hz1 hz2 HY4 HJ4 HSZ
          have HN5 := Lib.hid (N11.out.trans (HJ5.out.below.mono N11.out.size))
          have HY5 := Lib.hid (show Sl hc 5 w23 (.slice Yh y.hazs.length Yh_) y.hazs _ from (HFy.out.2.2.2.2.2 ▸ (HGY.out.below_ HN5.out).hazs))
          obtain ⟨y0, y1, y2, y3, y4, y5, y6⟩ := Cy.out w23 HN5.out
          have c5 := Lib.cell_of_heap HJ5.out.at_ 6
          obtain ⟨i0, hi0, hz0, hz1, hz2⟩ := info_parts info_haz
          have hsz := HJ5.out.below.size
          have HSZ := Lib.hid hsz
          clear hsz
          go_upto_region 24 with (at_builtin; refine wpList_append_sl _ rfl _ _ _ rfl wr.heap.size 54 i0 _ 56 Tryz.underlying27 hi0 hz0 hz1 hz2 (by rfl) (by omega) hc_len hc_one _ _ u.hazs y.hazs rfl rfl HJ5.out.z HY5.out (by have h1 := HLEN.out.1.2.2.2.2.2; have h2 := HLEN.out.2.2.2.2.2.2; simp only [maxLen]; omega) (by have h1 := HLEN.out.1.2.2.2.2.2; have h2 := HLEN.out.2.2.2.2.2.2; omega) (by exact HSZ.out) ?_; intro v1 w24 hown hg hm; obtain ⟨A5, n5, p5, ev⟩ := ow_form hown; subst ev; have q6 := HJ5.out.qz hg; have q7 := Lib.cell_of_heap q6 6; have q8 := Lib.frozen_of_heap q6 6)
          have hj := HJ5.out.app_z hown hg hm
          obtain ⟨w25, hw⟩ : ∃ w, w24.setCell ⟨w12.heap.size, 6, none⟩ (.slice A5 n5 p5) = w := ⟨_, rfl⟩
          rw [hw] at hj ⊢
          have HJ6 := Lib.hid hj
          clear hj hw hown hg hm q6 q7 q8 y0 y1 y2 y3 y4 y5 y6 c5 hi0 hz0 hz1 hz2 HY5 HJ5 HSZ
          have NF := Lib.hid (N11.out.trans (HJ6.out.below.mono N11.out.size))
          have HBw19 := Lib.hid (show Below w.heap.size w w25 from HBw1.out.trans (NF.out.mono HBw1.out.size))
          obtain ⟨m, hm⟩ : ∃ m : SheetM, m = ⟨u.hor, .slice A0 n0 p0, .slice A1 n1 p1, .slice A2 n2 p2, .slice A3 n3 p3, .slice A4 n4 p4, .slice A5 n5 p5, u.stops ++ y.stops, u.paths ++ y.paths, u.doors ++ y.doors, u.routes ++ y.routes, u.trips ++ y.trips, u.hazs ++ y.hazs⟩ := ⟨_, rfl⟩
          have HMD := Lib.hid (show m.d = joinD x.d y.d by
            rw [hm]
            show SheetD.mk _ _ _ _ _ _ _ = SheetD.mk _ _ _ _ _ _ _
            rw [HUD.out.1, HUD.out.2.1, HUD.out.2.2.1, HUD.out.2.2.2.1, List.map_append, HUD.out.2.2.2.2.1, HUD.out.2.2.2.2.2.1, HUD.out.2.2.2.2.2.2]
            rfl)
          have heach : ∀ r ∈ u.routes ++ y.routes, r.Good w25 (fun _ => True) := fun r hr => (List.mem_append.1 hr).elim (fun h => (HJ6.out.each r h).mono fun _ _ => trivial) (fun h => ((HGY.out.below_ NF.out).each r h).mono fun _ _ => trivial)
          have HMG := Lib.hid (show m.Good w25 (fun _ => True) by
            rw [hm]
            exact ⟨(HJ6.out.s.sl nc_len).mono fun _ _ => trivial, (HJ6.out.p.sl pc_len).mono fun _ _ => trivial, (HJ6.out.d.sl dc_len).mono fun _ _ => trivial, ((HJ6.out.r.sl rcN_len).congr fun r hr => rcN_eq (heach r hr)).mono fun _ _ => trivial, heach, (HJ6.out.t.sl trc_len).mono fun _ _ => trivial, (HJ6.out.z.sl hc_len).mono fun _ _ => trivial⟩)
          have HVm := Lib.hid (show m.v = .agg #[.int .i64 u.hor, .slice A0 n0 p0, .slice A1 n1 p1, .slice A2 n2 p2, .slice A3 n3 p3, .slice A4 n4 p4, .slice A5 n5 p5] by rw [hm]; rfl)
          have Cm := Lib.hid (fun (wy : World) (h : Below w25.heap.size w25 wy) => (show wy.cell? ⟨w12.heap.size, 0, none⟩ = some (.int .i64 u.hor) ∧ wy.cell? ⟨w12.heap.size, 1, none⟩ = some (.slice A0 n0 p0) ∧ wy.cell? ⟨w12.heap.size, 2, none⟩ = some (.slice A1 n1 p1) ∧ wy.cell? ⟨w12.heap.size, 3, none⟩ = some (.slice A2 n2 p2) ∧ wy.cell? ⟨w12.heap.size, 4, none⟩ = some (.slice A3 n3 p3) ∧ wy.cell? ⟨w12.heap.size, 5, none⟩ = some (.slice A4 n4 p4) ∧ wy.cell? ⟨w12.heap.size, 6, none⟩ = some (.slice A5 n5 p5) from ⟨(h.cell (p := ⟨w12.heap.size, 0, none⟩) HJ6.out.plt).trans (Lib.cell_of_heap HJ6.out.at_ 0), (h.cell (p := ⟨w12.heap.size, 1, none⟩) HJ6.out.plt).trans (Lib.cell_of_heap HJ6.out.at_ 1), (h.cell (p := ⟨w12.heap.size, 2, none⟩) HJ6.out.plt).trans (Lib.cell_of_heap HJ6.out.at_ 2), (h.cell (p := ⟨w12.heap.size, 3, none⟩) HJ6.out.plt).trans (Lib.cell_of_heap HJ6.out.at_ 3), (h.cell (p := ⟨w12.heap.size, 4, none⟩) HJ6.out.plt).trans (Lib.cell_of_heap HJ6.out.at_ 4), (h.cell (p := ⟨w12.heap.size, 5, none⟩) HJ6.out.plt).trans (Lib.cell_of_heap HJ6.out.at_ 5), (h.cell (p := ⟨w12.heap.size, 6, none⟩) HJ6.out.plt).trans (Lib.cell_of_heap HJ6.out.at_ 6)⟩))
          clear hm heach HJ6
          have hpr := sparse_any S w25 (HT.out.below HBw19.out) (HL.out.below HBw19.out)
          obtain ⟨⟨PD, fx, g2, g3⟩, hPD⟩ : ∃ r, parseS S = r := ⟨_, rfl⟩
          rw [hPD] at hpr HPS
          dsimp only [FaultD.v] at hpr
          have HPR := Lib.hid hpr
          clear hpr hPD
          go_wp2_with fail
          refine HPR.out.mono ?_
          clear HPR
          rintro e w30 ⟨z, hzd, rfl, hgz, hb⟩
          have HBw30 := Lib.hid (HBw19.out.trans (hb.mono HBw19.out.size))
          have HNw30 := Lib.hid hb
          have HZD := Lib.hid hzd
          clear hb hzd
          obtain ⟨Zs, Zs_, Zp, Zp_, Zd, Zd_, Zr, Zr_, Zt, Zt_, Zh, Zh_, ezs, ezp, ezd, ezr, ezt, ezh⟩ := SheetAt.forms hgz
          have Vz : z.v = .agg #[.int .i64 z.hor, .slice Zs z.stops.length Zs_, .slice Zp z.paths.length Zp_, .slice Zd z.doors.length Zd_, .slice Zr z.routes.length Zr_, .slice Zt z.trips.length Zt_, .slice Zh z.hazs.length Zh_] := by
            unfold SheetM.v; rw [ezs, ezp, ezd, ezr, ezt, ezh]
          rw [Vz]
          have HVz := Lib.hid Vz
          have HGz := Lib.hid hgz
          have HFz := Lib.hid (show z.vs = .slice Zs z.stops.length Zs_ ∧ z.vp = .slice Zp z.paths.length Zp_ ∧ z.vd = .slice Zd z.doors.length Zd_ ∧ z.vr = .slice Zr z.routes.length Zr_ ∧ z.vt = .slice Zt z.trips.length Zt_ ∧ z.vh = .slice Zh z.hazs.length Zh_ from ⟨ezs, ezp, ezd, ezr, ezt, ezh⟩)
          clear Vz hgz ezs ezp ezd ezr ezt ezh
          go_upto_region 25 with fail
          obtain ⟨w31, hwa⟩ : ∃ wa, (w30.alloc (.cells #[.int .i64 z.hor, .slice Zs z.stops.length Zs_, .slice Zp z.paths.length Zp_, .slice Zd z.doors.length Zd_, .slice Zr z.routes.length Zr_, .slice Zt z.trips.length Zt_, .slice Zh z.hazs.length Zh_] 29)).alloc (.cells #[.int .i64 fx, .int .i64 g2, .int .i64 g3] 39) = wa := ⟨_, rfl⟩
          have hba : Below w30.heap.size w30 w31 := by rw [← hwa]; exact ((Below.refl _ _).alloc (Nat.le_refl _) _).alloc (by simp) _
          have hza : w31.heap.size = w30.heap.size + 2 := by rw [← hwa]; simp
          have hA : w31.heap[w30.heap.size]? = some (.cells #[.int .i64 z.hor, .slice Zs z.stops.length Zs_, .slice Zp z.paths.length Zp_, .slice Zd z.doors.length Zd_, .slice Zr z.routes.length Zr_, .slice Zt z.trips.length Zt_, .slice Zh z.hazs.length Zh_] 29 (0, 0)) := by rw [← hwa, Below.heap_alloc _ _ _ (by simp)]; exact heap_alloc_new _ _
          have hB : w31.heap[w30.heap.size + 1]? = some (.cells #[.int .i64 fx, .int .i64 g2, .int .i64 g3] 39 (0, 0)) := by
            rw [← hwa]
            have h := heap_alloc_new (w30.alloc (.cells #[.int .i64 z.hor, .slice Zs z.stops.length Zs_, .slice Zp z.paths.length Zp_, .slice Zd z.doors.length Zd_, .slice Zr z.routes.length Zr_, .slice Zt z.trips.length Zt_, .slice Zh z.hazs.length Zh_] 29)) (.cells #[.int .i64 fx, .int .i64 g2, .int .i64 g3] 39)
            rw [show (w30.alloc (.cells #[.int .i64 z.hor, .slice Zs z.stops.length Zs_, .slice Zp z.paths.length Zp_, .slice Zd z.doors.length Zd_, .slice Zr z.routes.length Zr_, .slice Zt z.trips.length Zt_, .slice Zh z.hazs.length Zh_] 29)).heap.size = w30.heap.size + 1 by simp] at h
            exact h
          have Cz := Lib.hid (fun (wy : World) (h : Below w31.heap.size w31 wy) => (show wy.cell? ⟨w30.heap.size, 0, none⟩ = some (.int .i64 z.hor) ∧ wy.cell? ⟨w30.heap.size, 1, none⟩ = some (.slice Zs z.stops.length Zs_) ∧ wy.cell? ⟨w30.heap.size, 2, none⟩ = some (.slice Zp z.paths.length Zp_) ∧ wy.cell? ⟨w30.heap.size, 3, none⟩ = some (.slice Zd z.doors.length Zd_) ∧ wy.cell? ⟨w30.heap.size, 4, none⟩ = some (.slice Zr z.routes.length Zr_) ∧ wy.cell? ⟨w30.heap.size, 5, none⟩ = some (.slice Zt z.trips.length Zt_) ∧ wy.cell? ⟨w30.heap.size, 6, none⟩ = some (.slice Zh z.hazs.length Zh_) from ⟨(h.cell (p := ⟨w30.heap.size, 0, none⟩) (by show w30.heap.size < _; omega)).trans (Lib.cell_of_heap hA 0), (h.cell (p := ⟨w30.heap.size, 1, none⟩) (by show w30.heap.size < _; omega)).trans (Lib.cell_of_heap hA 1), (h.cell (p := ⟨w30.heap.size, 2, none⟩) (by show w30.heap.size < _; omega)).trans (Lib.cell_of_heap hA 2), (h.cell (p := ⟨w30.heap.size, 3, none⟩) (by show w30.heap.size < _; omega)).trans (Lib.cell_of_heap hA 3), (h.cell (p := ⟨w30.heap.size, 4, none⟩) (by show w30.heap.size < _; omega)).trans (Lib.cell_of_heap hA 4), (h.cell (p := ⟨w30.heap.size, 5, none⟩) (by show w30.heap.size < _; omega)).trans (Lib.cell_of_heap hA 5), (h.cell (p := ⟨w30.heap.size, 6, none⟩) (by show w30.heap.size < _; omega)).trans (Lib.cell_of_heap hA 6)⟩))
          have Fz := Lib.hid (fun (wy : World) (h : Below w31.heap.size w31 wy) => (show wy.cell? ⟨w30.heap.size + 1, 0, none⟩ = some (.int .i64 fx) ∧ wy.cell? ⟨w30.heap.size + 1, 1, none⟩ = some (.int .i64 g2) ∧ wy.cell? ⟨w30.heap.size + 1, 2, none⟩ = some (.int .i64 g3) from ⟨(h.cell (p := ⟨w30.heap.size + 1, 0, none⟩) (by show w30.heap.size + 1 < _; omega)).trans (Lib.cell_of_heap hB 0), (h.cell (p := ⟨w30.heap.size + 1, 1, none⟩) (by show w30.heap.size + 1 < _; omega)).trans (Lib.cell_of_heap hB 1), (h.cell (p := ⟨w30.heap.size + 1, 2, none⟩) (by show w30.heap.size + 1 < _; omega)).trans (Lib.cell_of_heap hB 2)⟩))
          have HBw31 := Lib.hid (HBw30.out.trans (hba.mono HBw30.out.size))
          have HGz2 := Lib.hid (HGz.out.below_ hba)
          clear HGz
          have HGz := Lib.hid HGz2.out
          clear HGz2
          have HNw31 := Lib.hid hba
          try rw [hwa]
          clear hwa hba hza hA hB
          have NZ := Lib.hid (HNw30.out.trans (HNw31.out.mono HNw30.out.size))
          have N31 := Lib.hid (NF.out.trans (NZ.out.mono NF.out.size))
          have HC := Lib.hid (fun (wy : World) (h : Below w31.heap.size w31 wy) => And.intro (Cx.out wy (N31.out.trans (h.mono N31.out.size))) (And.intro (Cy.out wy (N31.out.trans (h.mono N31.out.size))) (And.intro (Cz.out wy h) (And.intro (Cm.out wy (NZ.out.trans (h.mono NZ.out.size))) (Fz.out wy h)))))
          have hSw : Below w31.heap.size w31 w31 := Below.refl _ _
          by_cases hbig : 65536 < S.size
          · have q1 : (65536 : Int) < (S.size : Int) := by omega
            have q2 : decide ((65536 : Int) < (S.size : Int)) = true := decide_eq_true q1
            have q3 : decide (65536 < S.size) = true := decide_eq_true hbig
            clear hbig
            refine wp_region_kinds (fun wy => Below w31.heap.size w31 wy) [10, 14, 16, 18] [] [4, 8, 9, 13, 15, 17] [0, 1, 2, 3, 5, 6, 7, 11, 12, 19, 20, 21, 22, 23] [0, 1, 2, 3, 4, 5, 6, 7, 8, 9, 10, 11, 12, 13, 15, 17, 14, 16, 18, 19, 20, 21, 22, 23] (by kernel_rfl) (by kernel_rfl) (fun w n h => below_drewN h n) ?_
            repeat (first | (refine wpKind_free (v := ?_) (by rfl) rfl (by rfl) ?_ ?_; rotate_left 1; (focus (intro wy; go_simp; try with_reducible rfl; done)); try simp only [Act.put, List.setIfInBounds_toArray, List.set_cons_zero, List.set_cons_succ]) | (refine wpKind_free_no (by rfl) rfl (by rfl) ?_; try simp only [Act.put, List.setIfInBounds_toArray, List.set_cons_zero, List.set_cons_succ]) | (refine wpKind_held_no (by rfl) rfl (by rfl) hSw ?_; try simp only [Act.put, List.setIfInBounds_toArray, List.set_cons_zero, List.set_cons_succ]))
            refine wpKind_keeps (by rfl) rfl (fun m1 => ?_)
            go_wp2_with fail
            show _ ∧ _
            refine ⟨below_drewN hSw m1, ?_⟩
            have hS1 := below_drewN hSw m1
            clear hSw
            have hSw := hS1
            clear hS1
            repeat (first | (refine wpKind_free (v := ?_) (by rfl) rfl (by rfl) ?_ ?_; rotate_left 1; (focus (intro wy; go_simp; try with_reducible rfl; done)); try simp only [Act.put, List.setIfInBounds_toArray, List.set_cons_zero, List.set_cons_succ]) | (refine wpKind_free_no (by rfl) rfl (by rfl) ?_; try simp only [Act.put, List.setIfInBounds_toArray, List.set_cons_zero, List.set_cons_succ]) | (refine wpKind_held_no (by rfl) rfl (by rfl) hSw ?_; try simp only [Act.put, List.setIfInBounds_toArray, List.set_cons_zero, List.set_cons_succ]))
            refine wpKind_keeps (by rfl) rfl (fun m2 => ?_)
            go_wp2_with fail
            show _ ∧ _
            refine ⟨below_drewN hSw m2, ?_⟩
            have hS1 := below_drewN hSw m2
            clear hSw
            have hSw := hS1
            clear hS1
            repeat (first | (refine wpKind_free (v := ?_) (by rfl) rfl (by rfl) ?_ ?_; rotate_left 1; (focus (intro wy; go_simp; try with_reducible rfl; done)); try simp only [Act.put, List.setIfInBounds_toArray, List.set_cons_zero, List.set_cons_succ]) | (refine wpKind_free_no (by rfl) rfl (by rfl) ?_; try simp only [Act.put, List.setIfInBounds_toArray, List.set_cons_zero, List.set_cons_succ]) | (refine wpKind_held_no (by rfl) rfl (by rfl) hSw ?_; try simp only [Act.put, List.setIfInBounds_toArray, List.set_cons_zero, List.set_cons_succ]))
            refine wpKind_keeps (by rfl) rfl (fun m3 => ?_)
            go_wp2_with fail
            show _ ∧ _
            refine ⟨below_drewN hSw m3, ?_⟩
            have hS1 := below_drewN hSw m3
            clear hSw
            have hSw := hS1
            clear hS1
            repeat (first | (refine wpKind_free (v := ?_) (by rfl) rfl (by rfl) ?_ ?_; rotate_left 1; (focus (intro wy; go_simp; try with_reducible rfl; done)); try simp only [Act.put, List.setIfInBounds_toArray, List.set_cons_zero, List.set_cons_succ]) | (refine wpKind_free_no (by rfl) rfl (by rfl) ?_; try simp only [Act.put, List.setIfInBounds_toArray, List.set_cons_zero, List.set_cons_succ]) | (refine wpKind_held_no (by rfl) rfl (by rfl) hSw ?_; try simp only [Act.put, List.setIfInBounds_toArray, List.set_cons_zero, List.set_cons_succ]))
            refine wpKind_keeps (by rfl) rfl (fun m4 => ?_)
            go_wp2_with fail
            show _ ∧ _
            refine ⟨below_drewN hSw m4, ?_⟩
            have hS1 := below_drewN hSw m4
            clear hSw
            have hSw := hS1
            clear hS1
            repeat (first | (refine wpKind_free (v := ?_) (by rfl) rfl (by rfl) ?_ ?_; rotate_left 1; (focus (intro wy; go_simp; try with_reducible rfl; done)); try simp only [Act.put, List.setIfInBounds_toArray, List.set_cons_zero, List.set_cons_succ]) | (refine wpKind_free_no (by rfl) rfl (by rfl) ?_; try simp only [Act.put, List.setIfInBounds_toArray, List.set_cons_zero, List.set_cons_succ]) | (refine wpKind_held_no (by rfl) rfl (by rfl) hSw ?_; try simp only [Act.put, List.setIfInBounds_toArray, List.set_cons_zero, List.set_cons_succ]))
            refine wpKind_nil fun m9 => ?_
            go_wp2_with fail
            go_ret
            exact ⟨rfl, below_drewN (HBw31.out.trans (hSw.mono HBw31.out.size)) m9⟩
          have q1 : ¬ (65536 : Int) < (S.size : Int) := by omega
          have q2 : decide ((65536 : Int) < (S.size : Int)) = false := decide_eq_false q1
          have q3 : decide (65536 < S.size) = false := decide_eq_false hbig
          have hps := HPS.out (by omega)
          injection hps with hr1 hr2
          injection hr2 with hr2 hr3 hr4
          subst hr1 hr2 hr3 hr4
          have HZS := Lib.hid (join_small HZD.out HLX.out HLY.out)
          have HK1 := Lib.hid (fun (wy : World) (h : Below w31.heap.size w31 wy) => HVz.out ▸ HVm.out ▸ sameSh_any z m wy (HGz.out.below_ h) (HMG.out.below_ (NZ.out.trans (h.mono NZ.out.size))) HZS.out.1)
          rw [decide_eq_true (show z.d = m.d by rw [HZD.out, HMD.out])] at HK1
          have HTZ := Lib.hid (fun (wy : World) (h : Below w31.heap.size w31 wy) => HVz.out ▸ sthings_any wy z (HGz.out.below_ h) HZS.out.2)
          rw [show ((thingsD z.d : Nat) : Int) = (tx : Int) + (ty : Int) by rw [HZD.out, HJT.out]; omega] at HTZ
          have hws : IntKind.i64.wrap ((tx : Int) + (ty : Int)) = (tx : Int) + (ty : Int) := by simp [IntKind.wrap, IntKind.bits, IntKind.signed]; omega
          have q7 := fe0
          clear hbig HPS
          refine wp_region_kinds (fun wy => Below w31.heap.size w31 wy) [10, 14, 16, 18] [] [4, 8, 9, 13, 15, 17] [0, 1, 2, 3, 5, 6, 7, 11, 12, 19, 20, 21, 22, 23] [0, 1, 2, 3, 4, 5, 6, 7, 8, 9, 10, 11, 12, 13, 15, 17, 14, 16, 18, 19, 20, 21, 22, 23] (by kernel_rfl) (by kernel_rfl) (fun w n h => below_drewN h n) ?_
          repeat (first | (refine wpKind_free (v := ?_) (by rfl) rfl (by rfl) ?_ ?_; rotate_left 1; (focus (intro wy; go_simp; try with_reducible rfl; done)); try simp only [Act.put, List.setIfInBounds_toArray, List.set_cons_zero, List.set_cons_succ]) | (refine wpKind_held (v := ?_) (by rfl) rfl (by rfl) hSw ?_ ?_; rotate_left 1; (focus (intro wy hSy; obtain ⟨⟨x0, x1, x2, x3, x4, x5, x6⟩, ⟨y0, y1, y2, y3, y4, y5, y6⟩, ⟨z0, z1, z2, z3, z4, z5, z6⟩, ⟨u0, u1, u2, u3, u4, u5, u6⟩, f0, f1, f2⟩ := HC.out wy hSy; go_simp; try with_reducible rfl; done)); try simp only [Act.put, List.setIfInBounds_toArray, List.set_cons_zero, List.set_cons_succ]))
          refine wpKind_keeps (by rfl) rfl (fun m0 => ?_)
          go_wp2_with fail
          refine (HK1.out (w31.drewN m0) (below_drewN hSw m0)).mono ?_
          rintro e w40 ⟨rfl, hb⟩
          have HV0 := Lib.hid (show Below w31.heap.size w31 w40 from (below_drewN hSw m0).trans (hb.mono (by exact hSw.size)))
          clear hb hSw
          go_wp2_with fail
          show _ ∧ _
          refine ⟨HV0.out, ?_⟩
          have hSw := HV0.out
          repeat (first | (refine wpKind_free (v := ?_) (by rfl) rfl (by rfl) ?_ ?_; rotate_left 1; (focus (intro wy; go_simp; try with_reducible rfl; done)); try simp only [Act.put, List.setIfInBounds_toArray, List.set_cons_zero, List.set_cons_succ]) | (refine wpKind_held (v := ?_) (by rfl) rfl (by rfl) hSw ?_ ?_; rotate_left 1; (focus (intro wy hSy; obtain ⟨⟨x0, x1, x2, x3, x4, x5, x6⟩, ⟨y0, y1, y2, y3, y4, y5, y6⟩, ⟨z0, z1, z2, z3, z4, z5, z6⟩, ⟨u0, u1, u2, u3, u4, u5, u6⟩, f0, f1, f2⟩ := HC.out wy hSy; go_simp; try with_reducible rfl; done)); try simp only [Act.put, List.setIfInBounds_toArray, List.set_cons_zero, List.set_cons_succ]))
          refine wpKind_keeps (by rfl) rfl (fun m1 => ?_)
          go_wp2_with fail
          refine (HTZ.out (w40.drewN m1) (below_drewN hSw m1)).mono ?_
          rintro e w41 ⟨rfl, hb⟩
          have HV1 := Lib.hid (show Below w31.heap.size w31 w41 from (below_drewN hSw m1).trans (hb.mono (by exact hSw.size)))
          clear hb hSw
          go_wp2_with fail
          show _ ∧ _
          refine ⟨HV1.out, ?_⟩
          have hSw := HV1.out
          repeat (first | (refine wpKind_free (v := ?_) (by rfl) rfl (by rfl) ?_ ?_; rotate_left 1; (focus (intro wy; go_simp; try with_reducible rfl; done)); try simp only [Act.put, List.setIfInBounds_toArray, List.set_cons_zero, List.set_cons_succ]) | (refine wpKind_held (v := ?_) (by rfl) rfl (by rfl) hSw ?_ ?_; rotate_left 1; (focus (intro wy hSy; obtain ⟨⟨x0, x1, x2, x3, x4, x5, x6⟩, ⟨y0, y1, y2, y3, y4, y5, y6⟩, ⟨z0, z1, z2, z3, z4, z5, z6⟩, ⟨u0, u1, u2, u3, u4, u5, u6⟩, f0, f1, f2⟩ := HC.out wy hSy; go_simp; try with_reducible rfl; done)); try simp only [Act.put, List.setIfInBounds_toArray, List.set_cons_zero, List.set_cons_succ]))
          refine wpKind_keeps (by rfl) rfl (fun m2 => ?_)
          go_wp2_with fail
          refine (HTX.out (w41.drewN m2) (N31.out.trans ((below_drewN hSw m2).mono N31.out.size))).mono ?_
          rintro e w42 ⟨rfl, hb⟩
          have HV2 := Lib.hid (show Below w31.heap.size w31 w42 from (below_drewN hSw m2).trans (hb.mono (by exact hSw.size)))
          clear hb hSw
          go_wp2_with fail
          show _ ∧ _
          refine ⟨HV2.out, ?_⟩
          have hSw := HV2.out
          repeat (first | (refine wpKind_free (v := ?_) (by rfl) rfl (by rfl) ?_ ?_; rotate_left 1; (focus (intro wy; go_simp; try with_reducible rfl; done)); try simp only [Act.put, List.setIfInBounds_toArray, List.set_cons_zero, List.set_cons_succ]) | (refine wpKind_held (v := ?_) (by rfl) rfl (by rfl) hSw ?_ ?_; rotate_left 1; (focus (intro wy hSy; obtain ⟨⟨x0, x1, x2, x3, x4, x5, x6⟩, ⟨y0, y1, y2, y3, y4, y5, y6⟩, ⟨z0, z1, z2, z3, z4, z5, z6⟩, ⟨u0, u1, u2, u3, u4, u5, u6⟩, f0, f1, f2⟩ := HC.out wy hSy; go_simp; try with_reducible rfl; done)); try simp only [Act.put, List.setIfInBounds_toArray, List.set_cons_zero, List.set_cons_succ]))
          refine wpKind_keeps (by rfl) rfl (fun m3 => ?_)
          go_wp2_with fail
          refine (HTY.out (w42.drewN m3) (N31.out.trans ((below_drewN hSw m3).mono N31.out.size))).mono ?_
          rintro e w43 ⟨rfl, hb⟩
          have HV3 := Lib.hid (show Below w31.heap.size w31 w43 from (below_drewN hSw m3).trans (hb.mono (by exact hSw.size)))
          clear hb hSw
          go_wp2_with fail
          show _ ∧ _
          refine ⟨HV3.out, ?_⟩
          have hSw := HV3.out
          repeat (first | (refine wpKind_free (v := ?_) (by rfl) rfl (by rfl) ?_ ?_; rotate_left 1; (focus (intro wy; go_simp; try with_reducible rfl; done)); try simp only [Act.put, List.setIfInBounds_toArray, List.set_cons_zero, List.set_cons_succ]) | (refine wpKind_held (v := ?_) (by rfl) rfl (by rfl) hSw ?_ ?_; rotate_left 1; (focus (intro wy hSy; obtain ⟨⟨x0, x1, x2, x3, x4, x5, x6⟩, ⟨y0, y1, y2, y3, y4, y5, y6⟩, ⟨z0, z1, z2, z3, z4, z5, z6⟩, ⟨u0, u1, u2, u3, u4, u5, u6⟩, f0, f1, f2⟩ := HC.out wy hSy; go_simp; try with_reducible rfl; done)); try simp only [Act.put, List.setIfInBounds_toArray, List.set_cons_zero, List.set_cons_succ]))
          refine wpKind_nil fun m9 => ?_
          go_wp2_with fail
          go_ret
          exact ⟨rfl, below_drewN (HBw31.out.trans (hSw.mono HBw31.out.size)) m9⟩
end Go.Proofs.YteonefgbdphmiaaGreatDoor
