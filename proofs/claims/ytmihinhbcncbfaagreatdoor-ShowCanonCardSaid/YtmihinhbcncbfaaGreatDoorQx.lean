/- The law ShowCanon: its walk. Printed by wip/bin/genqx.py. -/
import Derived.Test.YtmihinhbcncbfaaGreatDoorQp
import Derived.Test.YtmihinhbcncbfaaGreatDoorQw
import Derived.Test.YtmihinhbcncbfaaGreatDoorQs
import Derived.Test.YtmihinhbcncbfaaGreatDoorTe
import Derived.Test.YtmihinhbcncbfaaGreatDoorVv
namespace Go.Proofs.YtmihinhbcncbfaaGreatDoor
open Go.RowKit
/-- A sheet that may be is not much. -/
theorem may_few {x : SheetM} (h : checkD x.d = 0) : x.Few := by
  obtain ⟨hl, _, _, hr⟩ := check_ok h
  unfold longD at hl
  rw [decide_eq_false_iff_not] at hl
  have e : x.d.routes.length = x.routes.length := by simp [SheetM.d]
  rw [e] at hl
  simp only [SheetM.d] at hl
  refine ⟨by omega, by omega, by omega, by omega, by omega, by omega, fun r hr2 => ?_⟩
  have h2 := hr r.d (List.mem_map_of_mem hr2)
  unfold okR at h2
  rw [decide_eq_true_eq] at h2
  have h3 : r.stops.length ≤ 32 := h2.2.1
  have h4 : r.rides.length + 1 = r.stops.length := h2.2.2.1
  have h5 : r.stays.length + 2 = r.stops.length := h2.2.2.2
  omega
theorem may_small {x : SheetM} (h : checkD x.d = 0) : x.Small := by
  have f := may_few h
  have := f.stops; have := f.paths; have := f.doors; have := f.routes; have := f.trips; have := f.hazs
  refine ⟨by omega, by omega, by omega, by omega, by omega, by omega, fun r hr => ?_⟩
  have h3 := f.each r hr
  exact ⟨by omega, by omega, by omega⟩
theorem may_text (w : World) (x : SheetM) {P : Nat → Prop} (hg : x.Good w P) (hT : Tabs w) (hP : Pow w) (hc : checkD x.d = 0) :
    Calls Tryz.prog 9 #[x.v] w fun e w' => e = .returned (.tuple #[.string (ba (textL (linesD x.d))), .int .i64 0]) ∧ Below w.heap.size w w' :=
  text_ok w x hg (may_few hc) (check_ok hc).1 hT hP (fun s hs => Nat.le_trans (Nm.name_len ((check_ok hc).2.1 s hs)).2 (by decide)) hc
/-- What is shown is read once more; or it is too long. -/
theorem parse_two (x : SheetM) (hc : checkD x.d = 0) (S : ByteArray) (hS : ba (textL (linesD x.d)) = S) (W : World) :
    Calls Tryz.prog 26 #[.string S] W fun e w' => ∃ (y : SheetM) (fy gy hy : Int), checkD y.d = 0 ∧ (S.size ≤ 65536 → y.d = x.d ∧ fy = 0) ∧ e = .returned (.tuple #[y.v, .agg #[.int .i64 fy, .int .i64 gy, .int .i64 hy]]) ∧ y.Good w' (fun _ => True) ∧ Below W.heap.size W w' := by
  by_cases hs : S.size ≤ 65536
  · refine (qparse_any S W hs).mono ?_
    rw [read_back x.d S hc (by rw [← hS]; rfl) hs]
    rintro e w' ⟨y, hy, he, hg, hb⟩
    exact ⟨y, 0, 0, 0, by rw [hy]; exact hc, fun _ => ⟨hy, rfl⟩, he, hg.mono fun _ _ => trivial, hb⟩
  · refine (qparse_long S W (by omega)).mono ?_
    rintro e w' ⟨y, hy, he, hg, hb⟩
    exact ⟨y, 3, 1, 1, by rw [hy]; decide, fun h => absurd h hs, he, hg.mono fun _ _ => trivial, hb⟩
set_option maxHeartbeats 16000000 in
set_option maxRecDepth 100000 in
theorem scanon_any (w : World) (s : ByteArray) (hT : Tabs w) (hP : Pow w) :
    Calls Tryz.prog 5 #[.string s] w fun e w' => e = .returned (.bool true) ∧ Below w.heap.size w w' := by
  have HT := Lib.hid hT
  have HP := Lib.hid hP
  clear hT hP
  go_enter Tryz.func5, Tryz.ntmps5
  go_wp2_with fail
  refine (lives_any w HP.out).mono ?_
  rintro e w2 ⟨rfl, hb⟩
  have HB2 := Lib.hid hb
  clear hb
  by_cases hlen : 4000 < s.size
  · have q1 : (4000 : Int) < (s.size : Int) := by omega
    clear hlen
    go_wp2_with fail
    go_ret
    exact ⟨rfl, HB2.out⟩
  have q1 : ¬ (4000 : Int) < (s.size : Int) := by omega
  have hpr := qparse_any s w2 (by omega)
  have hro := read_ok s
  obtain ⟨⟨PD, fx, g2, g3⟩, hPD⟩ : ∃ r, parseS s = r := ⟨_, rfl⟩
  rw [hPD] at hpr hro
  dsimp only at hpr hro
  have HPR := Lib.hid hpr
  have HRO := Lib.hid hro
  clear hpr hro hPD hlen
  go_wp2_with fail
  refine HPR.out.mono ?_
  clear HPR
  rintro e w3 ⟨x, hxd, rfl, hgx, hb⟩
  have HB3 := Lib.hid (HB2.out.trans (hb.mono HB2.out.size))
  obtain ⟨Xs, xs, Xp, xp, Xd, xd, Xr, xr, Xt, xt, Xh, xh, exs, exp, exd, exr, ext, exh⟩ := SheetAt.forms hgx
  have V : x.v = .agg #[.int .i64 x.hor, .slice Xs x.stops.length xs, .slice Xp x.paths.length xp, .slice Xd x.doors.length xd, .slice Xr x.routes.length xr, .slice Xt x.trips.length xt, .slice Xh x.hazs.length xh] := by
    unfold SheetM.v; rw [exs, exp, exd, exr, ext, exh]
  rw [V]
  have HV := Lib.hid V
  have HGX := Lib.hid hgx
  have HXD := Lib.hid hxd
  clear hb V hgx hxd HB2 exs exp exd exr ext exh
  go_upto_region 6 with fail
  obtain ⟨w4, hwa⟩ : ∃ wa, (w3.alloc (.cells #[.int .i64 x.hor, .slice Xs x.stops.length xs, .slice Xp x.paths.length xp, .slice Xd x.doors.length xd, .slice Xr x.routes.length xr, .slice Xt x.trips.length xt, .slice Xh x.hazs.length xh] 29)).alloc (.cells #[.int .i64 fx, .int .i64 g2, .int .i64 g3] 61) = wa := ⟨_, rfl⟩
  have hba : Below w3.heap.size w3 w4 := by rw [← hwa]; exact ((Below.refl _ _).alloc (Nat.le_refl _) _).alloc (by simp) _
  have hza : w4.heap.size = w3.heap.size + 2 := by rw [← hwa]; simp
  have hA : w4.heap[w3.heap.size]? = some (.cells #[.int .i64 x.hor, .slice Xs x.stops.length xs, .slice Xp x.paths.length xp, .slice Xd x.doors.length xd, .slice Xr x.routes.length xr, .slice Xt x.trips.length xt, .slice Xh x.hazs.length xh] 29 (0, 0)) := by rw [← hwa, Below.heap_alloc _ _ _ (by simp)]; exact heap_alloc_new _ _
  have hB : w4.heap[w3.heap.size + 1]? = some (.cells #[.int .i64 fx, .int .i64 g2, .int .i64 g3] 61 (0, 0)) := by
    rw [← hwa]
    have h := heap_alloc_new (w3.alloc (.cells #[.int .i64 x.hor, .slice Xs x.stops.length xs, .slice Xp x.paths.length xp, .slice Xd x.doors.length xd, .slice Xr x.routes.length xr, .slice Xt x.trips.length xt, .slice Xh x.hazs.length xh] 29)) (.cells #[.int .i64 fx, .int .i64 g2, .int .i64 g3] 61)
    rw [show (w3.alloc (.cells #[.int .i64 x.hor, .slice Xs x.stops.length xs, .slice Xp x.paths.length xp, .slice Xd x.doors.length xd, .slice Xr x.routes.length xr, .slice Xt x.trips.length xt, .slice Xh x.hazs.length xh] 29)).heap.size = w3.heap.size + 1 by simp] at h
    exact h
  have CX := Lib.hid (fun (wy : World) (h : Below w4.heap.size w4 wy) => (show wy.cell? ⟨w3.heap.size, 0, none⟩ = some (.int .i64 x.hor) ∧ wy.cell? ⟨w3.heap.size, 1, none⟩ = some (.slice Xs x.stops.length xs) ∧ wy.cell? ⟨w3.heap.size, 2, none⟩ = some (.slice Xp x.paths.length xp) ∧ wy.cell? ⟨w3.heap.size, 3, none⟩ = some (.slice Xd x.doors.length xd) ∧ wy.cell? ⟨w3.heap.size, 4, none⟩ = some (.slice Xr x.routes.length xr) ∧ wy.cell? ⟨w3.heap.size, 5, none⟩ = some (.slice Xt x.trips.length xt) ∧ wy.cell? ⟨w3.heap.size, 6, none⟩ = some (.slice Xh x.hazs.length xh) from ⟨(h.cell (p := ⟨w3.heap.size, 0, none⟩) (by show w3.heap.size < _; omega)).trans (Lib.cell_of_heap hA 0), (h.cell (p := ⟨w3.heap.size, 1, none⟩) (by show w3.heap.size < _; omega)).trans (Lib.cell_of_heap hA 1), (h.cell (p := ⟨w3.heap.size, 2, none⟩) (by show w3.heap.size < _; omega)).trans (Lib.cell_of_heap hA 2), (h.cell (p := ⟨w3.heap.size, 3, none⟩) (by show w3.heap.size < _; omega)).trans (Lib.cell_of_heap hA 3), (h.cell (p := ⟨w3.heap.size, 4, none⟩) (by show w3.heap.size < _; omega)).trans (Lib.cell_of_heap hA 4), (h.cell (p := ⟨w3.heap.size, 5, none⟩) (by show w3.heap.size < _; omega)).trans (Lib.cell_of_heap hA 5), (h.cell (p := ⟨w3.heap.size, 6, none⟩) (by show w3.heap.size < _; omega)).trans (Lib.cell_of_heap hA 6)⟩))
  have FX := Lib.hid (fun (wy : World) (h : Below w4.heap.size w4 wy) => (show wy.cell? ⟨w3.heap.size + 1, 0, none⟩ = some (.int .i64 fx) from (h.cell (p := ⟨w3.heap.size + 1, 0, none⟩) (by show w3.heap.size + 1 < _; omega)).trans (Lib.cell_of_heap hB 0)))
  have HB4 := Lib.hid (HB3.out.trans (hba.mono HB3.out.size))
  have HG4 := Lib.hid (HGX.out.below_ hba)
  rw [hwa]
  clear hwa hba hza hA hB HB3 HGX
  have fx0 := FX.out w4 (Below.refl _ _)
  by_cases hf : fx = 0
  · have HF0 := Lib.hid hf
    have HCK := Lib.hid (show checkD x.d = 0 by rw [HXD.out]; exact HRO.out hf)
    rw [hf] at fx0 ⊢
    clear hf
    have htx := fun W (hb : Below w4.heap.size w4 W) => HV.out ▸ may_text W x (HG4.out.below_ hb) (HT.out.below (HB4.out.trans (hb.mono HB4.out.size))) (HP.out.below (HB4.out.trans (hb.mono HB4.out.size))) HCK.out
    obtain ⟨S, hS⟩ : ∃ S, ba (textL (linesD x.d)) = S := ⟨_, rfl⟩
    simp only [hS] at htx
    have HTX := Lib.hid htx
    have HS := Lib.hid hS
    clear htx hS
    obtain ⟨x0, x1, x2, x3, x4, x5, x6⟩ := CX.out w4 (Below.refl _ _)
    go_wp2_with fail
    refine (HTX.out w4 (Below.refl _ _)).mono ?_
    clear HTX fx0 x0 x1 x2 x3 x4 x5 x6
    rintro e w5 ⟨rfl, hb⟩
    have HB5 := Lib.hid hb
    clear hb
    go_wp2_with fail
    refine (parse_two x HCK.out S HS.out w5).mono ?_
    rintro e w6 ⟨y, fy, gy, hy, hcy, hyd, rfl, hgy, hb⟩
    have HB6 := Lib.hid (HB5.out.trans (hb.mono HB5.out.size))
    obtain ⟨Ys, ys, Yp, yp, Yd, yd, Yr, yr, Yt, yt, Yh, yh, eys, eyp, eyd, eyr, eyt, eyh⟩ := SheetAt.forms hgy
    have U : y.v = .agg #[.int .i64 y.hor, .slice Ys y.stops.length ys, .slice Yp y.paths.length yp, .slice Yd y.doors.length yd, .slice Yr y.routes.length yr, .slice Yt y.trips.length yt, .slice Yh y.hazs.length yh] := by
      unfold SheetM.v; rw [eys, eyp, eyd, eyr, eyt, eyh]
    rw [U]
    have HU := Lib.hid U
    have HGY := Lib.hid hgy
    have HYD := Lib.hid hyd
    have HCY := Lib.hid hcy
    clear hb U hgy hyd hcy HB5 eys eyp eyd eyr eyt eyh
    go_upto_region 12 with fail
    obtain ⟨w7, hwa⟩ : ∃ wa, (w6.alloc (.cells #[.int .i64 y.hor, .slice Ys y.stops.length ys, .slice Yp y.paths.length yp, .slice Yd y.doors.length yd, .slice Yr y.routes.length yr, .slice Yt y.trips.length yt, .slice Yh y.hazs.length yh] 29)).alloc (.cells #[.int .i64 fy, .int .i64 gy, .int .i64 hy] 61) = wa := ⟨_, rfl⟩
    have hba : Below w6.heap.size w6 w7 := by rw [← hwa]; exact ((Below.refl _ _).alloc (Nat.le_refl _) _).alloc (by simp) _
    have hza : w7.heap.size = w6.heap.size + 2 := by rw [← hwa]; simp
    have hA : w7.heap[w6.heap.size]? = some (.cells #[.int .i64 y.hor, .slice Ys y.stops.length ys, .slice Yp y.paths.length yp, .slice Yd y.doors.length yd, .slice Yr y.routes.length yr, .slice Yt y.trips.length yt, .slice Yh y.hazs.length yh] 29 (0, 0)) := by rw [← hwa, Below.heap_alloc _ _ _ (by simp)]; exact heap_alloc_new _ _
    have hB : w7.heap[w6.heap.size + 1]? = some (.cells #[.int .i64 fy, .int .i64 gy, .int .i64 hy] 61 (0, 0)) := by
      rw [← hwa]
      have h := heap_alloc_new (w6.alloc (.cells #[.int .i64 y.hor, .slice Ys y.stops.length ys, .slice Yp y.paths.length yp, .slice Yd y.doors.length yd, .slice Yr y.routes.length yr, .slice Yt y.trips.length yt, .slice Yh y.hazs.length yh] 29)) (.cells #[.int .i64 fy, .int .i64 gy, .int .i64 hy] 61)
      rw [show (w6.alloc (.cells #[.int .i64 y.hor, .slice Ys y.stops.length ys, .slice Yp y.paths.length yp, .slice Yd y.doors.length yd, .slice Yr y.routes.length yr, .slice Yt y.trips.length yt, .slice Yh y.hazs.length yh] 29)).heap.size = w6.heap.size + 1 by simp] at h
      exact h
    have CY := Lib.hid (fun (wy : World) (h : Below w7.heap.size w7 wy) => (show wy.cell? ⟨w6.heap.size, 0, none⟩ = some (.int .i64 y.hor) ∧ wy.cell? ⟨w6.heap.size, 1, none⟩ = some (.slice Ys y.stops.length ys) ∧ wy.cell? ⟨w6.heap.size, 2, none⟩ = some (.slice Yp y.paths.length yp) ∧ wy.cell? ⟨w6.heap.size, 3, none⟩ = some (.slice Yd y.doors.length yd) ∧ wy.cell? ⟨w6.heap.size, 4, none⟩ = some (.slice Yr y.routes.length yr) ∧ wy.cell? ⟨w6.heap.size, 5, none⟩ = some (.slice Yt y.trips.length yt) ∧ wy.cell? ⟨w6.heap.size, 6, none⟩ = some (.slice Yh y.hazs.length yh) from ⟨(h.cell (p := ⟨w6.heap.size, 0, none⟩) (by show w6.heap.size < _; omega)).trans (Lib.cell_of_heap hA 0), (h.cell (p := ⟨w6.heap.size, 1, none⟩) (by show w6.heap.size < _; omega)).trans (Lib.cell_of_heap hA 1), (h.cell (p := ⟨w6.heap.size, 2, none⟩) (by show w6.heap.size < _; omega)).trans (Lib.cell_of_heap hA 2), (h.cell (p := ⟨w6.heap.size, 3, none⟩) (by show w6.heap.size < _; omega)).trans (Lib.cell_of_heap hA 3), (h.cell (p := ⟨w6.heap.size, 4, none⟩) (by show w6.heap.size < _; omega)).trans (Lib.cell_of_heap hA 4), (h.cell (p := ⟨w6.heap.size, 5, none⟩) (by show w6.heap.size < _; omega)).trans (Lib.cell_of_heap hA 5), (h.cell (p := ⟨w6.heap.size, 6, none⟩) (by show w6.heap.size < _; omega)).trans (Lib.cell_of_heap hA 6)⟩))
    have FY := Lib.hid (fun (wy : World) (h : Below w7.heap.size w7 wy) => (show wy.cell? ⟨w6.heap.size + 1, 0, none⟩ = some (.int .i64 fy) from (h.cell (p := ⟨w6.heap.size + 1, 0, none⟩) (by show w6.heap.size + 1 < _; omega)).trans (Lib.cell_of_heap hB 0)))
    have HB7 := Lib.hid (HB6.out.trans (hba.mono HB6.out.size))
    have HG7 := Lib.hid (HGY.out.below_ hba)
    rw [hwa]
    clear hwa hba hza hA hB HB6 HGY
    have HTW := Lib.hid (HB4.out.trans (HB7.out.mono HB4.out.size))
    have hty := HU.out ▸ may_text w7 y HG7.out (HT.out.below HTW.out) (HP.out.below HTW.out) HCY.out
    obtain ⟨T, hT⟩ : ∃ T, ba (textL (linesD y.d)) = T := ⟨_, rfl⟩
    simp only [hT] at hty
    have HTY := Lib.hid hty
    have HTT := Lib.hid hT
    clear hty hT
    obtain ⟨y0, y1, y2, y3, y4, y5, y6⟩ := CY.out w7 (Below.refl _ _)
    go_wp2_with fail
    refine HTY.out.mono ?_
    clear HTY y0 y1 y2 y3 y4 y5 y6
    rintro e w8 ⟨rfl, hb⟩
    have HB8 := Lib.hid hb
    clear hb
    by_cases hlen : 65536 < S.size
    · have q2 : (65536 : Int) < (S.size : Int) := by omega
      clear hlen
      go_wp2_with fail
      go_ret
      exact ⟨rfl, HTW.out.trans (HB8.out.mono HTW.out.size)⟩
    · have q2 : ¬ (65536 : Int) < (S.size : Int) := by omega
      have hyd := HYD.out (by omega)
      have hss : S = T := by rw [← HS.out, ← HTT.out, hyd.1]
      have fy0 := FY.out w8 HB8.out
      rw [hyd.2] at fy0
      have HSS := Lib.hid (HV.out ▸ HU.out ▸ sameSh_any x y w8 (HG4.out.below_ (HB7.out.trans (HB8.out.mono HB7.out.size))) (HG7.out.below_ HB8.out) (may_small HCK.out))
      have HDE := Lib.hid (show decide (x.d = y.d) = true from decide_eq_true hyd.1.symm)
      rw [← hss]
      clear hlen hyd hss
      obtain ⟨x0, x1, x2, x3, x4, x5, x6⟩ := CX.out w8 (HB7.out.trans (HB8.out.mono HB7.out.size))
      obtain ⟨y0, y1, y2, y3, y4, y5, y6⟩ := CY.out w8 HB8.out
      go_wp2_with fail
      refine HSS.out.mono ?_
      rw [HDE.out]
      clear HSS fy0 x0 x1 x2 x3 x4 x5 x6 y0 y1 y2 y3 y4 y5 y6
      rintro e w9 ⟨rfl, hb⟩
      have HB9 := Lib.hid (HB8.out.trans (hb.mono HB8.out.size))
      clear hb
      go_wp2_with fail
      go_ret
      exact ⟨rfl, HTW.out.trans (HB9.out.mono HTW.out.size)⟩
  · have k1 : (fx == 0) = false := beq_eq_false_iff_ne.2 hf
    have k2 : (fx != 0) = true := by rw [bne, k1]; rfl
    clear hf
    go_wp2_with fail
    go_ret
    exact ⟨rfl, HB4.out⟩
end Go.Proofs.YtmihinhbcncbfaaGreatDoor
