/- The law SheetLess: its walk. Printed by wip/bin/genkq.py. -/
import Derived.Test.YteonefgbdphmiaaGreatDoorKp
import Derived.Test.YteonefgbdphmiaaGreatDoorWl
import Derived.Test.YteonefgbdphmiaaGreatDoorPm
import Derived.Test.YteonefgbdphmiaaGreatDoorPk
import Derived.Test.YteonefgbdphmiaaGreatDoorZs
import Derived.Test.YteonefgbdphmiaaGreatDoorZf
import Derived.Test.YteonefgbdphmiaaGreatDoorMh
namespace Go.Proofs.YteonefgbdphmiaaGreatDoor
open Go.RowKit
theorem nq0 (W : World) : (Go.binOp BinOp.neq 39 (.agg #[.int .i64 0, .int .i64 0, .int .i64 0]) (.agg #[.int .i64 0, .int .i64 0, .int .i64 0])).run Tryz.prog W = .ok (.bool false) W := by kernel_rfl
set_option maxHeartbeats 8000000 in
set_option maxRecDepth 100000 in
theorem sless_any (w : World) (x : SheetM) (at_ : Int) {P : Nat → Prop} (hg : x.Good w P) (hm : ∀ s ∈ namesD x.d, s.length ≤ maxLen) (hT : Tabs w) (hL : LibOk w) : Calls Tryz.prog 5 #[x.v, .int .i64 at_] w fun e w' => e = .returned (.bool true) ∧ Below w.heap.size w w' := by
  have HT := Lib.hid hT
  have HL := Lib.hid hL
  have HM := Lib.hid hm
  clear hT hL hm
  obtain ⟨i0, hi0, hz0, hz1, hz2⟩ := info_parts info_string
  obtain ⟨Xs, Xs_, Xp, Xp_, Xd, Xd_, Xr, Xr_, Xt, Xt_, Xh, Xh_, exs, exp, exd, exr, ext, exh⟩ := SheetAt.forms hg
  have Vx : x.v = .agg #[.int .i64 x.hor, .slice Xs x.stops.length Xs_, .slice Xp x.paths.length Xp_, .slice Xd x.doors.length Xd_, .slice Xr x.routes.length Xr_, .slice Xt x.trips.length Xt_, .slice Xh x.hazs.length Xh_] := by
    unfold SheetM.v; rw [exs, exp, exd, exr, ext, exh]
  rw [Vx]
  have HVx := Lib.hid Vx
  have HGx := Lib.hid hg
  have HFx := Lib.hid (show x.vs = .slice Xs x.stops.length Xs_ ∧ x.vp = .slice Xp x.paths.length Xp_ ∧ x.vd = .slice Xd x.doors.length Xd_ ∧ x.vr = .slice Xr x.routes.length Xr_ ∧ x.vt = .slice Xt x.trips.length Xt_ ∧ x.vh = .slice Xh x.hazs.length Xh_ from ⟨exs, exp, exd, exr, ext, exh⟩)
  clear Vx hg exs exp exd exr ext exh
  go_enter Tryz.func5, Tryz.ntmps5
  go_upto_region 1 with fail
  obtain ⟨w1, hwa⟩ : ∃ wa, w.alloc (.cells #[.int .i64 x.hor, .slice Xs x.stops.length Xs_, .slice Xp x.paths.length Xp_, .slice Xd x.doors.length Xd_, .slice Xr x.routes.length Xr_, .slice Xt x.trips.length Xt_, .slice Xh x.hazs.length Xh_] 29) = wa := ⟨_, rfl⟩
  have hba : Below w.heap.size w w1 := by rw [← hwa]; exact (Below.refl _ _).alloc (Nat.le_refl _) _
  have hza : w1.heap.size = w.heap.size + 1 := by rw [← hwa]; simp
  have hA : w1.heap[w.heap.size]? = some (.cells #[.int .i64 x.hor, .slice Xs x.stops.length Xs_, .slice Xp x.paths.length Xp_, .slice Xd x.doors.length Xd_, .slice Xr x.routes.length Xr_, .slice Xt x.trips.length Xt_, .slice Xh x.hazs.length Xh_] 29 (0, 0)) := by rw [← hwa]; exact heap_alloc_new _ _
  have Cx := Lib.hid (fun (wy : World) (h : Below w1.heap.size w1 wy) => (show wy.cell? ⟨w.heap.size, 0, none⟩ = some (.int .i64 x.hor) ∧ wy.cell? ⟨w.heap.size, 1, none⟩ = some (.slice Xs x.stops.length Xs_) ∧ wy.cell? ⟨w.heap.size, 2, none⟩ = some (.slice Xp x.paths.length Xp_) ∧ wy.cell? ⟨w.heap.size, 3, none⟩ = some (.slice Xd x.doors.length Xd_) ∧ wy.cell? ⟨w.heap.size, 4, none⟩ = some (.slice Xr x.routes.length Xr_) ∧ wy.cell? ⟨w.heap.size, 5, none⟩ = some (.slice Xt x.trips.length Xt_) ∧ wy.cell? ⟨w.heap.size, 6, none⟩ = some (.slice Xh x.hazs.length Xh_) from ⟨(h.cell (p := ⟨w.heap.size, 0, none⟩) (by show w.heap.size < _; omega)).trans (Lib.cell_of_heap hA 0), (h.cell (p := ⟨w.heap.size, 1, none⟩) (by show w.heap.size < _; omega)).trans (Lib.cell_of_heap hA 1), (h.cell (p := ⟨w.heap.size, 2, none⟩) (by show w.heap.size < _; omega)).trans (Lib.cell_of_heap hA 2), (h.cell (p := ⟨w.heap.size, 3, none⟩) (by show w.heap.size < _; omega)).trans (Lib.cell_of_heap hA 3), (h.cell (p := ⟨w.heap.size, 4, none⟩) (by show w.heap.size < _; omega)).trans (Lib.cell_of_heap hA 4), (h.cell (p := ⟨w.heap.size, 5, none⟩) (by show w.heap.size < _; omega)).trans (Lib.cell_of_heap hA 5), (h.cell (p := ⟨w.heap.size, 6, none⟩) (by show w.heap.size < _; omega)).trans (Lib.cell_of_heap hA 6)⟩))
  have HGx2 := Lib.hid (HGx.out.below_ hba)
  clear HGx
  have HGx := Lib.hid HGx2.out
  clear HGx2
  have HBw1 := Lib.hid hba
  try rw [hwa]
  clear hwa hba hza hA
  go_wp2_with fail
  refine (lives_any w1 (HT.out.below HBw1.out) (HL.out.below HBw1.out)).mono ?_
  rintro e w2 ⟨rfl, hb⟩
  have N2 := Lib.hid hb
  clear hb
  obtain ⟨x0, x1, x2, x3, x4, x5, x6⟩ := Cx.out w2 N2.out
  have hli := HVx.out ▸ light_any w2 x (HGx.out.below_ N2.out)
  have HLI := Lib.hid hli
  clear hli
  go_wp2_with fail
  refine HLI.out.mono ?_
  rintro e w3 ⟨rfl, hb⟩
  have N3 := Lib.hid (N2.out.trans (hb.mono N2.out.size))
  clear hb HLI x0 x1 x2 x3 x4 x5 x6
  rcases hl : lightD x.d 60
  · go_wp2_with fail
    go_ret
    exact ⟨rfl, HBw1.out.trans (N3.out.mono HBw1.out.size)⟩
  have HLT := Lib.hid hl
  clear hl
  obtain ⟨x0, x1, x2, x3, x4, x5, x6⟩ := Cx.out w3 N3.out
  have hck := HVx.out ▸ zcheck_any w3 x (HGx.out.below_ N3.out) (light_few HLT.out) (light_long HLT.out) HM.out
  have HCK := Lib.hid hck
  clear hck
  go_wp2_with fail
  refine HCK.out.mono ?_
  rintro e w4 ⟨rfl, hb⟩
  have N4 := Lib.hid (N3.out.trans (hb.mono N3.out.size))
  clear hb HCK x0 x1 x2 x3 x4 x5 x6
  by_cases hc : checkD x.d = 0
  rotate_left 1
  · have q0 : (checkD x.d == 0) = false := beq_eq_false_iff_ne.2 hc
    have q1 : (checkD x.d != 0) = true := by rw [bne, q0]; rfl
    clear hc
    go_wp2_with fail
    go_ret
    exact ⟨rfl, HBw1.out.trans (N4.out.mono HBw1.out.size)⟩
  have HC0 := Lib.hid hc
  rw [hc]
  clear hc
  have HTH := Lib.hid (fun (wy : World) (h : Below w1.heap.size w1 wy) => HVx.out ▸ sthings_any wy x (HGx.out.below_ h) (light_few HLT.out))
  have HDL := Lib.hid (lines_len x.d)
  obtain ⟨t, ht⟩ : ∃ t, thingsD x.d = t := ⟨_, rfl⟩
  rw [ht] at HTH HDL
  have HTD := Lib.hid ht
  clear ht
  have ht6 : t ≤ 6200 := by have h1 := linesD_len x (light_few HLT.out); have := HDL.out; omega
  obtain ⟨x0, x1, x2, x3, x4, x5, x6⟩ := Cx.out w4 N4.out
  go_wp2_with fail
  refine (HTH.out w4 N4.out).mono ?_
  rintro e w5 ⟨rfl, hb⟩
  have N5 := Lib.hid (N4.out.trans (hb.mono N4.out.size))
  clear hb x0 x1 x2 x3 x4 x5 x6
  by_cases ht0 : t = 0
  · have q0 : ((t : Int) == 0) = true := beq_iff_eq.2 (by omega)
    clear ht0
    go_wp2_with fail
    go_ret
    exact ⟨rfl, HBw1.out.trans (N5.out.mono HBw1.out.size)⟩
  have q0 : ((t : Int) == 0) = false := beq_eq_false_iff_ne.2 (by omega)
  obtain ⟨x0, x1, x2, x3, x4, x5, x6⟩ := Cx.out w5 N5.out
  have hkl := HVx.out ▸ klines_any w5 x (HGx.out.below_ N5.out) (light_few HLT.out) HC0.out
  have HKL := Lib.hid hkl
  clear hkl
  go_wp2_with fail
  refine HKL.out.mono ?_
  rintro e w6 ⟨v, rfl, ho, hb⟩
  have N6 := Lib.hid (N5.out.trans (hb.mono N5.out.size))
  have hs : Sl nc 1 w6 v (linesD x.d) (fun _ => True) := (ho.sl nc_len).mono fun _ _ => trivial
  clear hb ho HKL x0 x1 x2 x3 x4 x5 x6
  obtain ⟨b1, o1, Lc, rfl, hc1, hc2, hlb, _, hlx⟩ := hs.form (by have := HDL.out; omega)
  have HLX := Lib.hid (show b1 < w6.heap.size ∧ ∀ (k : Nat) (h : k < (linesD x.d).length), w6.cell? ⟨b1, o1 + k, none⟩ = some (.string (ba (linesD x.d)[k])) from ⟨hlb, fun k h => by simpa using hlx k _ (List.getElem?_eq_getElem h) 0 _ rfl⟩)
  rw [HDL.out] at hs hc1 ⊢
  have HSL := Lib.hid hs
  clear hs hlb hlx
  obtain ⟨x0, x1, x2, x3, x4, x5, x6⟩ := Cx.out w6 N6.out
  have q1 : (((t + 1 : Nat) : Int) != (t : Int) + 1) = false := by simp
  have q2 : (((t : Nat) : Int) + 1 != (t : Int) + 1) = false := by simp
  go_wp2_with fail
  refine (HTH.out w6 N6.out).mono ?_
  rintro e w7 ⟨rfl, hb⟩
  have N7 := Lib.hid (N6.out.trans (hb.mono N6.out.size))
  have M7 := Lib.hid hb
  clear hb x0 x1 x2 x3 x4 x5 x6
  have hpk := fun W => pick_any at_ (t : Int) W (by omega) (by omega)
  obtain ⟨hp1, hp2⟩ := pick_lt at_ (t : Int) (by omega)
  obtain ⟨j, hn⟩ : ∃ j : Nat, at_ % (t : Int) = j := ⟨(at_ % (t : Int)).toNat, by omega⟩
  rw [hn] at hpk hp2
  have hjt : j < t := by omega
  have HPK := Lib.hid hpk
  have hsub : (t : Int) + 1 - 1 = (t : Int) := by omega
  obtain ⟨j1, hj1⟩ : ∃ j1, j1 = j + 1 := ⟨_, rfl⟩
  obtain ⟨j2, hj2⟩ : ∃ j2, j2 = j + 2 := ⟨_, rfl⟩
  have hadd : (1 : Int) + (j : Int) = (j1 : Int) := by omega
  have hadd2 : (j1 : Int) + 1 = (j2 : Int) := by omega
  have hw1 : IntKind.i64.wrap (j1 : Int) = (j1 : Int) := by simp [IntKind.wrap, IntKind.bits, IntKind.signed]; omega
  have hw2 : IntKind.i64.wrap (j2 : Int) = (j2 : Int) := by simp [IntKind.wrap, IntKind.bits, IntKind.signed]; omega
  have HJ1 := Lib.hid hj1
  have HJ2 := Lib.hid hj2
  clear hpk hn hp1 hp2 hj1 hj2
  go_wp2_with fail
  refine (HPK.out w7).mono ?_
  rintro e w' ⟨rfl, rfl⟩
  clear HPK q1 q2 q0
  have HLE := Lib.hid (linesD_le x HC0.out)
  have HLP := Lib.hid (less_plain HC0.out j)
  clear HTH HTD
  generalize linesD x.d = D at *
  have HES := Lib.hid (fun k => er_small D HLE.out (by have := HDL.out; omega) (j + 1) k)
  have HBw7 := Lib.hid (HBw1.out.trans (N7.out.mono HBw1.out.size))
  go_wp2_with fail
  go_loopg [7, 6] (t + 1) (fun gg v7 v6 wr => ∃ k : Nat, k ≤ t + 1 ∧ t + 1 - k ≤ gg ∧ v7 = .int .i64 k ∧ v6 = .string (ba (textL ((D.take k).eraseIdx (j + 1)))) ∧ wr = w7)
  case atStart => exact ⟨0, Nat.zero_le _, Nat.le_refl _, rfl, rfl, rfl⟩
  case round =>
    obtain ⟨k, hk, hgg, rfl, rfl, rfl⟩ := hrel
    by_cases hlt : k < t + 1
    · have hkd : k < D.length := by have := HDL.out; omega
      have hx0 := (M7.out.cell (p := ⟨b1, o1 + k, none⟩) HLX.out.1).trans (HLX.out.2 k hkd)
      have q1 : (0 : Int) ≤ (k : Int) := by omega
      have q2 : (k : Int) < (t : Int) + 1 := by omega
      have q3 : (k : Int) < ((t + 1 : Nat) : Int) := by omega
      by_cases hkj : k = j + 1
      · have q4 : ((k : Int) != (j1 : Int)) = false := by rw [hkj, HJ1.out]; simp
        have HE := Lib.hid (show textL ((D.take k).eraseIdx (j + 1)) = textL ((D.take (k + 1)).eraseIdx (j + 1)) by rw [hkj, erase_at])
        clear hkj hx0
        go_wp2_with fail
        go_roundg (t + 1 - (k + 1))
        case measure => omega
        case rel => exact ⟨k + 1, by omega, Nat.le_refl _, by go_num, by rw [HE.out], rfl⟩
      · have q4 : ((k : Int) != (j1 : Int)) = true := by have := HJ1.out; simp; omega
        have HE := Lib.hid (erase_ne D (j + 1) k hkd hkj)
        have zy : (ba D[k]).size ≤ 4000 := by rw [ba_size]; exact HLE.out _ (List.getElem_mem _)
        have z1 := HES.out k
        obtain ⟨y, hy⟩ : ∃ y, D[k] = y := ⟨_, rfl⟩
        rw [hy] at hx0 zy HE
        have HT2 := Lib.hid (text_snoc ((D.take k).eraseIdx (j + 1)) y)
        generalize (D.take k).eraseIdx (j + 1) = A at *
        have z2 : (ba (textL A) ++ ba y).size ≤ 24814201 := by rw [ByteArray.size_append]; exact Nat.add_le_add z1 zy
        have z3 : (ba (textL A) ++ ba y ++ ⟨#[10]⟩).size ≤ 24814202 := by rw [ByteArray.size_append]; exact Nat.add_le_add z2 (Nat.le_refl _)
        clear hkj hy
        go_wp2_with fail
        go_roundg (t + 1 - (k + 1))
        case measure => omega
        case rel => exact ⟨k + 1, by omega, Nat.le_refl _, by go_num, by rw [HE.out, ← HT2.out], rfl⟩
    · have hke : k = t + 1 := by omega
      subst hke
      have HE := Lib.hid (show (D.take (t + 1)).eraseIdx (j + 1) = D.eraseIdx (j + 1) by rw [List.take_of_length_le (by have := HDL.out; omega)])
      rw [HE.out]
      have z9 := HES.out (t + 1)
      rw [HE.out] at z9
      clear HE HES hgg hk hlt HLE
      obtain ⟨S, hS⟩ : ∃ S, ba (textL (D.eraseIdx (j + 1))) = S := ⟨_, rfl⟩
      have HS := Lib.hid hS
      rw [hS] at z9 ⊢
      clear hS
      have hpr := sparse_any S wr (HT.out.below HBw7.out) (HL.out.below HBw7.out)
      obtain ⟨⟨PD, fx, g2, g3⟩, hPD⟩ : ∃ r, parseS S = r := ⟨_, rfl⟩
      rw [hPD] at hpr
      dsimp only [FaultD.v] at hpr
      have HPR := Lib.hid hpr
      have HPD := Lib.hid hPD
      clear hpr hPD
      go_wp2_with fail
      refine HPR.out.mono ?_
      clear HPR
      rintro e w8 ⟨y, hyd, rfl, hgy, hb⟩
      have HBw8 := Lib.hid (HBw7.out.trans (hb.mono HBw7.out.size))
      have HNw8 := Lib.hid hb
      have HYD := Lib.hid hyd
      clear hb hyd
      obtain ⟨Ys, Ys_, Yp, Yp_, Yd, Yd_, Yr, Yr_, Yt, Yt_, Yh, Yh_, eys, eyp, eyd, eyr, eyt, eyh⟩ := SheetAt.forms hgy
      have Vy : y.v = .agg #[.int .i64 y.hor, .slice Ys y.stops.length Ys_, .slice Yp y.paths.length Yp_, .slice Yd y.doors.length Yd_, .slice Yr y.routes.length Yr_, .slice Yt y.trips.length Yt_, .slice Yh y.hazs.length Yh_] := by
        unfold SheetM.v; rw [eys, eyp, eyd, eyr, eyt, eyh]
      rw [Vy]
      have HVy := Lib.hid Vy
      have HGy := Lib.hid hgy
      have HFy := Lib.hid (show y.vs = .slice Ys y.stops.length Ys_ ∧ y.vp = .slice Yp y.paths.length Yp_ ∧ y.vd = .slice Yd y.doors.length Yd_ ∧ y.vr = .slice Yr y.routes.length Yr_ ∧ y.vt = .slice Yt y.trips.length Yt_ ∧ y.vh = .slice Yh y.hazs.length Yh_ from ⟨eys, eyp, eyd, eyr, eyt, eyh⟩)
      clear Vy hgy eys eyp eyd eyr eyt eyh
      go_upto_region 16 with fail
      obtain ⟨w9, hwa⟩ : ∃ wa, (w8.alloc (.cells #[.int .i64 y.hor, .slice Ys y.stops.length Ys_, .slice Yp y.paths.length Yp_, .slice Yd y.doors.length Yd_, .slice Yr y.routes.length Yr_, .slice Yt y.trips.length Yt_, .slice Yh y.hazs.length Yh_] 29)).alloc (.cells #[.int .i64 fx, .int .i64 g2, .int .i64 g3] 39) = wa := ⟨_, rfl⟩
      have hba : Below w8.heap.size w8 w9 := by rw [← hwa]; exact ((Below.refl _ _).alloc (Nat.le_refl _) _).alloc (by simp) _
      have hza : w9.heap.size = w8.heap.size + 2 := by rw [← hwa]; simp
      have hA : w9.heap[w8.heap.size]? = some (.cells #[.int .i64 y.hor, .slice Ys y.stops.length Ys_, .slice Yp y.paths.length Yp_, .slice Yd y.doors.length Yd_, .slice Yr y.routes.length Yr_, .slice Yt y.trips.length Yt_, .slice Yh y.hazs.length Yh_] 29 (0, 0)) := by rw [← hwa, Below.heap_alloc _ _ _ (by simp)]; exact heap_alloc_new _ _
      have hB : w9.heap[w8.heap.size + 1]? = some (.cells #[.int .i64 fx, .int .i64 g2, .int .i64 g3] 39 (0, 0)) := by
        rw [← hwa]
        have h := heap_alloc_new (w8.alloc (.cells #[.int .i64 y.hor, .slice Ys y.stops.length Ys_, .slice Yp y.paths.length Yp_, .slice Yd y.doors.length Yd_, .slice Yr y.routes.length Yr_, .slice Yt y.trips.length Yt_, .slice Yh y.hazs.length Yh_] 29)) (.cells #[.int .i64 fx, .int .i64 g2, .int .i64 g3] 39)
        rw [show (w8.alloc (.cells #[.int .i64 y.hor, .slice Ys y.stops.length Ys_, .slice Yp y.paths.length Yp_, .slice Yd y.doors.length Yd_, .slice Yr y.routes.length Yr_, .slice Yt y.trips.length Yt_, .slice Yh y.hazs.length Yh_] 29)).heap.size = w8.heap.size + 1 by simp] at h
        exact h
      have Cy := Lib.hid (fun (wy : World) (h : Below w9.heap.size w9 wy) => (show wy.cell? ⟨w8.heap.size, 0, none⟩ = some (.int .i64 y.hor) ∧ wy.cell? ⟨w8.heap.size, 1, none⟩ = some (.slice Ys y.stops.length Ys_) ∧ wy.cell? ⟨w8.heap.size, 2, none⟩ = some (.slice Yp y.paths.length Yp_) ∧ wy.cell? ⟨w8.heap.size, 3, none⟩ = some (.slice Yd y.doors.length Yd_) ∧ wy.cell? ⟨w8.heap.size, 4, none⟩ = some (.slice Yr y.routes.length Yr_) ∧ wy.cell? ⟨w8.heap.size, 5, none⟩ = some (.slice Yt y.trips.length Yt_) ∧ wy.cell? ⟨w8.heap.size, 6, none⟩ = some (.slice Yh y.hazs.length Yh_) from ⟨(h.cell (p := ⟨w8.heap.size, 0, none⟩) (by show w8.heap.size < _; omega)).trans (Lib.cell_of_heap hA 0), (h.cell (p := ⟨w8.heap.size, 1, none⟩) (by show w8.heap.size < _; omega)).trans (Lib.cell_of_heap hA 1), (h.cell (p := ⟨w8.heap.size, 2, none⟩) (by show w8.heap.size < _; omega)).trans (Lib.cell_of_heap hA 2), (h.cell (p := ⟨w8.heap.size, 3, none⟩) (by show w8.heap.size < _; omega)).trans (Lib.cell_of_heap hA 3), (h.cell (p := ⟨w8.heap.size, 4, none⟩) (by show w8.heap.size < _; omega)).trans (Lib.cell_of_heap hA 4), (h.cell (p := ⟨w8.heap.size, 5, none⟩) (by show w8.heap.size < _; omega)).trans (Lib.cell_of_heap hA 5), (h.cell (p := ⟨w8.heap.size, 6, none⟩) (by show w8.heap.size < _; omega)).trans (Lib.cell_of_heap hA 6)⟩))
      have Fy := Lib.hid (fun (wy : World) (h : Below w9.heap.size w9 wy) => (show wy.cell? ⟨w8.heap.size + 1, 0, none⟩ = some (.int .i64 fx) ∧ wy.cell? ⟨w8.heap.size + 1, 1, none⟩ = some (.int .i64 g2) ∧ wy.cell? ⟨w8.heap.size + 1, 2, none⟩ = some (.int .i64 g3) from ⟨(h.cell (p := ⟨w8.heap.size + 1, 0, none⟩) (by show w8.heap.size + 1 < _; omega)).trans (Lib.cell_of_heap hB 0), (h.cell (p := ⟨w8.heap.size + 1, 1, none⟩) (by show w8.heap.size + 1 < _; omega)).trans (Lib.cell_of_heap hB 1), (h.cell (p := ⟨w8.heap.size + 1, 2, none⟩) (by show w8.heap.size + 1 < _; omega)).trans (Lib.cell_of_heap hB 2)⟩))
      have HBw9 := Lib.hid (HBw8.out.trans (hba.mono HBw8.out.size))
      have HGy2 := Lib.hid (HGy.out.below_ hba)
      clear HGy
      have HGy := Lib.hid HGy2.out
      clear HGy2
      have HNw9 := Lib.hid hba
      try rw [hwa]
      clear hwa hba hza hA hB
      obtain ⟨fy0, fy1, fy2⟩ := Fy.out w9 (Below.refl _ _)
      by_cases hbig : 65536 < S.size
      · have q1 : (65536 : Int) < (S.size : Int) := by omega
        have q2 : decide ((65536 : Int) < (S.size : Int)) = true := decide_eq_true q1
        have q3 : decide (65536 < S.size) = true := decide_eq_true hbig
        clear hbig
        go_wp2_with fail
        go_ret
        exact ⟨rfl, HBw9.out⟩
      have q1 : ¬ (65536 : Int) < (S.size : Int) := by omega
      have q2 : decide ((65536 : Int) < (S.size : Int)) = false := decide_eq_false q1
      have q3 : decide (65536 < S.size) = false := decide_eq_false hbig
      obtain ⟨y0, hy0, hl0⟩ := HLP.out
      have hrb := read_back y0 S hy0 (by rw [hl0, ← HS.out]; rfl) (by omega)
      rw [HPD.out] at hrb
      injection hrb with hr1 hr2
      injection hr2 with hr2 hr3 hr4
      subst hr1 hr2 hr3 hr4
      have HCY := Lib.hid (show checkD y.d = 0 by rw [HYD.out]; exact hy0)
      have HLY := Lib.hid (show linesD y.d = D.eraseIdx (j + 1) by rw [HYD.out]; exact hl0)
      clear hy0 hl0 hbig HPD HLP HS
      have hck := HVy.out ▸ zcheck_any w9 y HGy.out (may_few HCY.out) (check_ok HCY.out).1 (may_names HCY.out)
      rw [HCY.out] at hck
      have HCK := Lib.hid hck
      clear hck
      obtain ⟨y0, y1, y2, y3, y4, y5, y6⟩ := Cy.out w9 (Below.refl _ _)
      have q7 := nq0
      go_wp2_with fail
      refine HCK.out.mono ?_
      rintro e w10 ⟨rfl, hb⟩
      have HBw10 := Lib.hid (HBw9.out.trans (hb.mono HBw9.out.size))
      have K10 := Lib.hid hb
      clear hb HCK y0 y1 y2 y3 y4 y5 y6 fy0 fy1 fy2
      obtain ⟨y0, y1, y2, y3, y4, y5, y6⟩ := Cy.out w10 K10.out
      have hkl := HVy.out ▸ klines_any w10 y (HGy.out.below_ K10.out) (may_few HCY.out) HCY.out
      have HKL := Lib.hid hkl
      clear hkl
      go_wp2_with fail
      refine HKL.out.mono ?_
      rintro e w11 ⟨v2, rfl, ho, hb⟩
      have HBw11 := Lib.hid (HBw10.out.trans (hb.mono HBw10.out.size))
      have M11 := Lib.hid (M7.out.trans ((HNw8.out.trans ((HNw9.out.trans ((K10.out.trans (hb.mono K10.out.size)).mono HNw9.out.size)).mono HNw8.out.size)).mono M7.out.size))
      have hs2 : Sl nc 1 w11 v2 (linesD y.d) (fun _ => True) := (ho.sl nc_len).mono fun _ _ => trivial
      rw [HLY.out] at hs2
      clear hb ho HKL y0 y1 y2 y3 y4 y5 y6
      have hel : (D.eraseIdx (j + 1)).length = t := by rw [List.length_eraseIdx_of_lt (by have := HDL.out; omega), HDL.out]; omega
      obtain ⟨B2, c2, rfl, _, _⟩ := hs2.shape
      rw [hel] at hs2 ⊢
      have HS2 := Lib.hid hs2
      have HEL := Lib.hid hel
      have hs1 := HSL.out.below_ M11.out
      have hs1a : Sl nc 1 w11 (.slice (some ⟨b1, o1, none⟩) j1 Lc) (D.take j1) (fun _ => True) := by
        have h := hs1.part (A' := some ⟨b1, o1, none⟩) (cap' := Lc) (i := 0) (j := j1) (Nat.zero_le _) (by have := HDL.out; have := HJ1.out; omega) (fun _ => by simp [Addr.add]) (by have := HJ1.out; omega) hc2
        simpa using h
      have hs1b : Sl nc 1 w11 (.slice (if Lc = j2 then some ⟨b1, o1, none⟩ else some ⟨b1, o1 + j2, none⟩) (t + 1 - j2) (Lc - j2)) (D.drop j2) (fun _ => True) := by
        have h := hs1.cut (i := j2) (j := t + 1) (m := t + 1 - j2) (by have := HJ2.out; omega) (by have := HDL.out; omega) rfl
        rw [List.take_of_length_le (by have := HDL.out; omega)] at h
        simp only [Option.map_some, Addr.add, Nat.mul_one, if_neg (show ¬ j2 = 0 by have := HJ2.out; omega)] at h
        exact h
      have HL1 := Lib.hid (show (D.take j1).length = j1 by rw [List.length_take]; have := HDL.out; have := HJ1.out; omega)
      have HL2 := Lib.hid (show (D.drop j2).length = t + 1 - j2 by rw [List.length_drop]; have := HDL.out; omega)
      have HEQ := Lib.hid (show D.eraseIdx (j + 1) = D.take j1 ++ D.drop j2 by rw [HJ1.out, HJ2.out]; exact List.eraseIdx_eq_take_drop_succ ..)
      have HSA := Lib.hid hs1a
      have HSB := Lib.hid hs1b
      clear hs2 hel hs1 hs1a hs1b
      have r1 : (0 : Int) ≤ (j1 : Int) := by omega
      have r2 : (j1 : Int) ≤ (Lc : Int) := by have := HJ1.out; omega
      have r3 : (0 : Int) ≤ (j2 : Int) := by omega
      have r4 : (j2 : Int) ≤ (t : Int) + 1 := by have := HJ2.out; omega
      go_upto_region 21 with fail
      have hSw : True := trivial
      refine wp_region_kinds (fun _ => True) [4, 9, 10] [] [] [0, 1, 2, 3, 5, 6, 7, 8, 11] [0, 1, 2, 3, 5, 6, 7, 8, 4, 9, 10, 11] (by kernel_rfl) (by kernel_rfl) (fun w n h => h) ?_
      repeat (first | (refine wpKind_free (v := ?_) (by rfl) rfl (by rfl) ?_ ?_; rotate_left 1; (focus (intro wy; go_simp; try with_reducible rfl; done)); try simp only [Act.put, List.setIfInBounds_toArray, List.set_cons_zero, List.set_cons_succ]))
      obtain ⟨A2, hA2⟩ : ∃ A2, (if Lc = j2 then some (⟨b1, o1, none⟩ : Addr) else some ⟨b1, o1 + j2, none⟩) = A2 := ⟨_, rfl⟩
      rw [hA2] at HSB ⊢
      clear hA2
      refine wpKind_keeps (by rfl) rfl (fun m1 => ?_)
      go_wp2_with fail
      refine (nown_any (w11.drewN m1) _ (D.take j1) (HSA.out.drewN m1) (by rw [HL1.out]; have := HJ1.out; omega)).mono ?_
      rintro e w12 ⟨v3, rfl, ho3, hb3⟩
      have HO3 := Lib.hid ho3
      have B12 := Lib.hid (show Below w11.heap.size w11 w12 from (below_drewN (Below.refl w11.heap.size w11) m1).trans hb3)
      have HSB2 := Lib.hid (HSB.out.below_ B12.out)
      clear ho3 hb3
      go_wp2_with fail
      show _ ∧ _
      refine ⟨trivial, ?_⟩
      refine wpKind_keeps (by rfl) rfl (fun m2 => ?_)
      go_wp2_with (at_builtin; refine wpList_append_sl _ rfl _ _ _ rfl w11.heap.size 9 i0 _ 16 Tryz.underlying22 hi0 hz0 hz1 hz2 rfl (by omega) nc_len nc_one _ _ (D.take j1) (D.drop j2) rfl rfl (HO3.out.drewN m2) (HSB2.out.drewN m2) (by rw [HL1.out, HL2.out]; have := HJ1.out; simp only [maxLen]; omega) (by rw [HL1.out, HL2.out]; have := HJ1.out; omega) (by exact B12.out.size) ?_; intro v1 w13 hown1 hg1 hmv1)
      have B13 := Lib.hid (show Below w11.heap.size w11 w13 from (below_drewN B12.out m2).grown hg1 (by exact B12.out.size) (fun k hk => (HO3.out.lt hk).1))
      have hs3 : Sl nc 1 w13 v1 (D.take j1 ++ D.drop j2) (fun _ => True) := (hown1.sl nc_len).mono fun _ _ => trivial
      rw [← HEQ.out] at hs3
      have HS3 := Lib.hid hs3
      clear hs3 hown1 hg1 hmv1
      show _ ∧ _
      refine ⟨trivial, ?_⟩
      refine wpKind_keeps (by rfl) rfl (fun m3 => ?_)
      go_wp2_with fail
      have hsm := sameStr_any _ _ (D.eraseIdx (j + 1)) (D.eraseIdx (j + 1)) (w13.drewN m3) ((HS2.out.below_ B13.out).drewN m3) (HS3.out.drewN m3) (by rw [HEL.out]; omega)
      rw [decide_eq_true rfl] at hsm
      refine hsm.mono ?_
      rintro e w14 ⟨rfl, k3, rfl⟩
      have B14 := Lib.hid (show Below w11.heap.size w11 ((w13.drewN m3).drewN k3) from below_drewN (below_drewN B13.out m3) k3)
      generalize (w13.drewN m3).drewN k3 = w14 at *
      clear hsm
      go_wp2_with fail
      show _ ∧ _
      refine ⟨trivial, ?_⟩
      repeat (first | (refine wpKind_free (v := ?_) (by rfl) rfl (by rfl) ?_ ?_; rotate_left 1; (focus (intro wy; go_simp; try with_reducible rfl; done)); try simp only [Act.put, List.setIfInBounds_toArray, List.set_cons_zero, List.set_cons_succ]))
      refine wpKind_nil fun n9 => ?_
      go_wp2_with fail
      go_ret
      exact ⟨rfl, below_drewN (HBw11.out.trans (B14.out.mono HBw11.out.size)) n9⟩
end Go.Proofs.YteonefgbdphmiaaGreatDoor
