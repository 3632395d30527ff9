/- The law SheetOrder: its walk. Printed by wip/bin/genkw.py. -/
import Derived.Test.YteonefgbdphmiaaGreatDoorKo
import Derived.Test.YteonefgbdphmiaaGreatDoorWl
import Derived.Test.YteonefgbdphmiaaGreatDoorPm
import Derived.Test.YteonefgbdphmiaaGreatDoorPk
import Derived.Test.YteonefgbdphmiaaGreatDoorZs
import Derived.Test.YteonefgbdphmiaaGreatDoorZf
import Derived.Test.YteonefgbdphmiaaGreatDoorMh
namespace Go.Proofs.YteonefgbdphmiaaGreatDoor
open Go.RowKit
theorem infoI : (Tryz.prog.info? 3).map (fun i => (i.zero, i.size, i.bytes)) = some (some (.int .i64 0), 1, 8) := by kernel_rfl
def sqL (d : SheetD) : List Int := (List.range 6).map fun k => ((1 + pre d k : Nat) : Int)
theorem sq_len (d : SheetD) : (sqL d).length = 6 := by simp [sqL]
theorem sq_at (d : SheetD) {k : Nat} (h : k < 6) : (sqL d)[k]? = some ((1 + pre d k : Nat) : Int) := by
  unfold sqL
  rw [List.getElem?_map, List.getElem?_range h]
  rfl
theorem pre_succ (d : SheetD) {k : Nat} (h : k < 5) : pre d (k + 1) = pre d k + cn d k := by
  have h : k = 0 ∨ k = 1 ∨ k = 2 ∨ k = 3 ∨ k = 4 := by omega
  rcases h with rfl | rfl | rfl | rfl | rfl <;> simp [pre]
theorem sq_step (d : SheetD) {k : Nat} (h : k < 5) : (sqL d).take (k + 2) = (sqL d).take (k + 1) ++ [((1 + pre d k + cn d k : Nat) : Int)] := by
  have h1 : k + 1 < (sqL d).length := by rw [sq_len]; omega
  rw [take_succ_eq _ _ h1]
  have h2 := sq_at d (show k + 1 < 6 by omega)
  rw [List.getElem?_eq_getElem h1] at h2
  injection h2 with h2
  rw [h2, pre_succ d h, Nat.add_assoc]
theorem pre_le (d : SheetD) {k : Nat} (h : k < 6) : pre d k + cn d k ≤ thingsD d := by
  rw [← total_KI]
  unfold sum6
  rcases lt6 h with rfl | rfl | rfl | rfl | rfl | rfl <;> simp only [pre] <;> omega
def rowN (nx : Nat → Nat) : Array Value := #[.int .i64 (nx 0), .int .i64 (nx 1), .int .i64 (nx 2), .int .i64 (nx 3), .int .i64 (nx 4), .int .i64 (nx 5)]
theorem row_cell {w : World} {b : Nat} {nx : Nat → Nat} {t : TypeId} (h : w.heap[b]? = some (.cells (rowN nx) t (0, 0))) {k : Nat} (hk : k < 6) : w.cell? ⟨b, k, none⟩ = some (.int .i64 (nx k)) := by
  rcases lt6 hk with rfl | rfl | rfl | rfl | rfl | rfl
  · exact Lib.cell_of_heap h 0
  · exact Lib.cell_of_heap h 1
  · exact Lib.cell_of_heap h 2
  · exact Lib.cell_of_heap h 3
  · exact Lib.cell_of_heap h 4
  · exact Lib.cell_of_heap h 5
theorem row_set {w : World} {b : Nat} {nx : Nat → Nat} {t : TypeId} (h : w.heap[b]? = some (.cells (rowN nx) t (0, 0))) {k : Nat} (hk : k < 6) : (w.setCell ⟨b, k, none⟩ (.int .i64 ((nx k : Int) + 1))).heap[b]? = some (.cells (rowN (upd nx k)) t (0, 0)) := by
  rcases lt6 hk with rfl | rfl | rfl | rfl | rfl | rfl
  · exact heap_setCell_same w b 0 _ _ (.int .i64 ((nx 0 : Int) + 1)) h
  · exact heap_setCell_same w b 1 _ _ (.int .i64 ((nx 1 : Int) + 1)) h
  · exact heap_setCell_same w b 2 _ _ (.int .i64 ((nx 2 : Int) + 1)) h
  · exact heap_setCell_same w b 3 _ _ (.int .i64 ((nx 3 : Int) + 1)) h
  · exact heap_setCell_same w b 4 _ _ (.int .i64 ((nx 4 : Int) + 1)) h
  · exact heap_setCell_same w b 5 _ _ (.int .i64 ((nx 5 : Int) + 1)) h
set_option maxHeartbeats 8000000 in
set_option maxRecDepth 100000 in
theorem sorder_any (w : World) (x : SheetM) (pv : Value) (pk : List Int) {R : Nat → Prop} (hpv : Sl ic 1 w pv pk R) {P : Nat → Prop} (hg : x.Good w P) (hm : ∀ s ∈ namesD x.d, s.length ≤ maxLen) (hT : Tabs w) (hL : LibOk w) : Calls Tryz.prog 3 #[x.v, pv] w fun e w' => e = .returned (.bool true) ∧ Below w.heap.size w w' := by
  have HT := Lib.hid hT
  have HL := Lib.hid hL
  have HM := Lib.hid hm
  clear hT hL hm
  obtain ⟨PA, PC, rfl, hpc1, hpc2⟩ := hpv.shape
  have HPV := Lib.hid hpv
  clear hpv
  obtain ⟨i0, hi0, hz0, hz1, hz2⟩ := info_parts infoI
  obtain ⟨Xs, Xs_, Xp, Xp_, Xd, Xd_, Xr, Xr_, Xt, Xt_, Xh, Xh_, exs, exp, exd, exr, ext, exh⟩ := SheetAt.forms hg
  have Vx : x.v = .agg #[.int .i64 x.hor, .slice Xs x.stops.length Xs_, .slice Xp x.paths.length Xp_, .slice Xd x.doors.length Xd_, .slice Xr x.routes.length Xr_, .slice Xt x.trips.length Xt_, .slice Xh x.hazs.length Xh_] := by
    unfold SheetM.v; rw [exs, exp, exd, exr, ext, exh]
  rw [Vx]
  have HVx := Lib.hid Vx
  have HGx := Lib.hid hg
  have HFx := Lib.hid (show x.vs = .slice Xs x.stops.length Xs_ ∧ x.vp = .slice Xp x.paths.length Xp_ ∧ x.vd = .slice Xd x.doors.length Xd_ ∧ x.vr = .slice Xr x.routes.length Xr_ ∧ x.vt = .slice Xt x.trips.length Xt_ ∧ x.vh = .slice Xh x.hazs.length Xh_ from ⟨exs, exp, exd, exr, ext, exh⟩)
  clear Vx hg exs exp exd exr ext exh
  go_enter Tryz.func3, Tryz.ntmps3
  go_upto_region 1 with fail
  obtain ⟨w1, hwa⟩ : ∃ wa, w.alloc (.cells #[.int .i64 x.hor, .slice Xs x.stops.length Xs_, .slice Xp x.paths.length Xp_, .slice Xd x.doors.length Xd_, .slice Xr x.routes.length Xr_, .slice Xt x.trips.length Xt_, .slice Xh x.hazs.length Xh_] 29) = wa := ⟨_, rfl⟩
  have hba : Below w.heap.size w w1 := by rw [← hwa]; exact (Below.refl _ _).alloc (Nat.le_refl _) _
  have hza : w1.heap.size = w.heap.size + 1 := by rw [← hwa]; simp
  have hA : w1.heap[w.heap.size]? = some (.cells #[.int .i64 x.hor, .slice Xs x.stops.length Xs_, .slice Xp x.paths.length Xp_, .slice Xd x.doors.length Xd_, .slice Xr x.routes.length Xr_, .slice Xt x.trips.length Xt_, .slice Xh x.hazs.length Xh_] 29 (0, 0)) := by rw [← hwa]; exact heap_alloc_new _ _
  have Cx := Lib.hid (fun (wy : World) (h : Below w1.heap.size w1 wy) => (show wy.cell? ⟨w.heap.size, 0, none⟩ = some (.int .i64 x.hor) ∧ wy.cell? ⟨w.heap.size, 1, none⟩ = some (.slice Xs x.stops.length Xs_) ∧ wy.cell? ⟨w.heap.size, 2, none⟩ = some (.slice Xp x.paths.length Xp_) ∧ wy.cell? ⟨w.heap.size, 3, none⟩ = some (.slice Xd x.doors.length Xd_) ∧ wy.cell? ⟨w.heap.size, 4, none⟩ = some (.slice Xr x.routes.length Xr_) ∧ wy.cell? ⟨w.heap.size, 5, none⟩ = some (.slice Xt x.trips.length Xt_) ∧ wy.cell? ⟨w.heap.size, 6, none⟩ = some (.slice Xh x.hazs.length Xh_) from ⟨(h.cell (p := ⟨w.heap.size, 0, none⟩) (by show w.heap.size < _; omega)).trans (Lib.cell_of_heap hA 0), (h.cell (p := ⟨w.heap.size, 1, none⟩) (by show w.heap.size < _; omega)).trans (Lib.cell_of_heap hA 1), (h.cell (p := ⟨w.heap.size, 2, none⟩) (by show w.heap.size < _; omega)).trans (Lib.cell_of_heap hA 2), (h.cell (p := ⟨w.heap.size, 3, none⟩) (by show w.heap.size < _; omega)).trans (Lib.cell_of_heap hA 3), (h.cell (p := ⟨w.heap.size, 4, none⟩) (by show w.heap.size < _; omega)).trans (Lib.cell_of_heap hA 4), (h.cell (p := ⟨w.heap.size, 5, none⟩) (by show w.heap.size < _; omega)).trans (Lib.cell_of_heap hA 5), (h.cell (p := ⟨w.heap.size, 6, none⟩) (by show w.heap.size < _; omega)).trans (Lib.cell_of_heap hA 6)⟩))
  have HGx2 := Lib.hid (HGx.out.below_ hba)
  clear HGx
  have HGx := Lib.hid HGx2.out
  clear HGx2
  have HBw1 := Lib.hid hba
  try rw [hwa]
  clear hwa hba hza hA
  go_wp2_with fail
  refine (lives_any w1 (HT.out.below HBw1.out) (HL.out.below HBw1.out)).mono ?_
  rintro e w2 ⟨rfl, hb⟩
  have N2 := Lib.hid hb
  clear hb
  obtain ⟨x0, x1, x2, x3, x4, x5, x6⟩ := Cx.out w2 N2.out
  have hli := HVx.out ▸ light_any w2 x (HGx.out.below_ N2.out)
  have HLI := Lib.hid hli
  clear hli
  go_wp2_with fail
  refine HLI.out.mono ?_
  rintro e w3 ⟨rfl, hb⟩
  have N3 := Lib.hid (N2.out.trans (hb.mono N2.out.size))
  clear hb HLI x0 x1 x2 x3 x4 x5 x6
  rcases hl : lightD x.d 60
  · go_wp2_with fail
    go_ret
    exact ⟨rfl, HBw1.out.trans (N3.out.mono HBw1.out.size)⟩
  have HLT := Lib.hid hl
  clear hl
  obtain ⟨x0, x1, x2, x3, x4, x5, x6⟩ := Cx.out w3 N3.out
  have hck := HVx.out ▸ zcheck_any w3 x (HGx.out.below_ N3.out) (light_few HLT.out) (light_long HLT.out) HM.out
  have HCK := Lib.hid hck
  clear hck
  go_wp2_with fail
  refine HCK.out.mono ?_
  rintro e w4 ⟨rfl, hb⟩
  have N4 := Lib.hid (N3.out.trans (hb.mono N3.out.size))
  clear hb HCK x0 x1 x2 x3 x4 x5 x6
  by_cases hc : checkD x.d = 0
  rotate_left 1
  · have q0 : (checkD x.d == 0) = false := beq_eq_false_iff_ne.2 hc
    have q1 : (checkD x.d != 0) = true := by rw [bne, q0]; rfl
    clear hc
    go_wp2_with fail
    go_ret
    exact ⟨rfl, HBw1.out.trans (N4.out.mono HBw1.out.size)⟩
  have HC0 := Lib.hid hc
  rw [hc]
  clear hc
  have HTH := Lib.hid (fun (wy : World) (h : Below w1.heap.size w1 wy) => HVx.out ▸ sthings_any wy x (HGx.out.below_ h) (light_few HLT.out))
  have HDL := Lib.hid (lines_len x.d)
  obtain ⟨t, ht⟩ : ∃ t, thingsD x.d = t := ⟨_, rfl⟩
  rw [ht] at HTH HDL
  have HTD := Lib.hid ht
  clear ht
  have ht6 : t ≤ 6200 := by have h1 := linesD_len x (light_few HLT.out); have := HDL.out; omega
  by_cases hpk : 400 < pk.length
  · have q1 : (400 : Int) < (pk.length : Int) := by omega
    have q2 : decide ((400 : Int) < (pk.length : Int)) = true := decide_eq_true q1
    clear hpk
    go_wp2_with fail
    go_ret
    exact ⟨rfl, HBw1.out.trans (N4.out.mono HBw1.out.size)⟩
  have q9 : ¬ (400 : Int) < (pk.length : Int) := by omega
  have q8 : decide ((400 : Int) < (pk.length : Int)) = false := decide_eq_false q9
  have HPL := Lib.hid hpk
  clear hpk
  obtain ⟨x0, x1, x2, x3, x4, x5, x6⟩ := Cx.out w4 N4.out
  have hkl := HVx.out ▸ klines_any w4 x (HGx.out.below_ N4.out) (light_few HLT.out) HC0.out
  have HKL := Lib.hid hkl
  clear hkl
  go_wp2_with fail
  refine HKL.out.mono ?_
  rintro e w6 ⟨v, rfl, ho, hb⟩
  have N6 := Lib.hid (N4.out.trans (hb.mono N4.out.size))
  have hs : Sl nc 1 w6 v (linesD x.d) (fun _ => True) := (ho.sl nc_len).mono fun _ _ => trivial
  clear hb ho HKL x0 x1 x2 x3 x4 x5 x6
  obtain ⟨b1, o1, Lc, rfl, hc1, hc2, hlb, _, hlx⟩ := hs.form (by have := HDL.out; omega)
  have HLX := Lib.hid (show b1 < w6.heap.size ∧ ∀ (k : Nat) (h : k < (linesD x.d).length), w6.cell? ⟨b1, o1 + k, none⟩ = some (.string (ba (linesD x.d)[k])) from ⟨hlb, fun k h => by simpa using hlx k _ (List.getElem?_eq_getElem h) 0 _ rfl⟩)
  rw [HDL.out] at hs hc1 ⊢
  have HSL := Lib.hid hs
  clear hs hlb hlx
  obtain ⟨x0, x1, x2, x3, x4, x5, x6⟩ := Cx.out w6 N6.out
  have q1 : (((t + 1 : Nat) : Int) != (t : Int) + 1) = false := by simp
  have q2 : (((t : Nat) : Int) + 1 != (t : Int) + 1) = false := by simp
  go_wp2_with fail
  refine (HTH.out w6 N6.out).mono ?_
  rintro e w7 ⟨rfl, hb⟩
  have N7 := Lib.hid (N6.out.trans (hb.mono N6.out.size))
  have M7 := Lib.hid hb
  clear hb x0 x1 x2 x3 x4 x5 x6
  clear q1 q2 q8 q9
  have HPC := Lib.hid (And.intro hpc1 hpc2)
  clear hpc1 hpc2
  obtain ⟨x0, x1, x2, x3, x4, x5, x6⟩ := Cx.out w7 N7.out
  go_upto_region 9 with fail
  clear x0 x1 x2 x3 x4 x5 x6
  obtain ⟨w8, hwa⟩ : ∃ wa, w7.alloc (.cells #[.int .i64 x.stops.length, .int .i64 x.paths.length, .int .i64 x.doors.length, .int .i64 x.routes.length, .int .i64 x.trips.length, .int .i64 x.hazs.length] 3) = wa := ⟨_, rfl⟩
  have hq : w8.heap[w7.heap.size]? = some (.cells #[.int .i64 x.stops.length, .int .i64 x.paths.length, .int .i64 x.doors.length, .int .i64 x.routes.length, .int .i64 x.trips.length, .int .i64 x.hazs.length] 3 (0, 0)) := by rw [← hwa]; exact heap_alloc_new _ _
  have hb8 : Below w7.heap.size w7 w8 := by rw [← hwa]; exact (Below.refl _ _).alloc (Nat.le_refl _) _
  have hlt : w7.heap.size < w8.heap.size := by rw [← hwa]; simp
  rw [hwa]
  clear hwa
  have hcn : ∀ k, k < 6 → w8.cell? ⟨w7.heap.size, k, none⟩ = some (.int .i64 (cn x.d k)) := by
    intro k hk
    rcases lt6 hk with rfl | rfl | rfl | rfl | rfl | rfl
    · rw [show cn x.d 0 = x.stops.length by simp [cn, KI, SheetM.d]]; exact Lib.cell_of_heap hq 0
    · rw [show cn x.d 1 = x.paths.length by simp [cn, KI, SheetM.d]]; exact Lib.cell_of_heap hq 1
    · rw [show cn x.d 2 = x.doors.length by simp [cn, KI, SheetM.d]]; exact Lib.cell_of_heap hq 2
    · rw [show cn x.d 3 = x.routes.length by simp [cn, KI, SheetM.d]]; exact Lib.cell_of_heap hq 3
    · rw [show cn x.d 4 = x.trips.length by simp [cn, KI, SheetM.d]]; exact Lib.cell_of_heap hq 4
    · rw [show cn x.d 5 = x.hazs.length by simp [cn, KI, SheetM.d]]; exact Lib.cell_of_heap hq 5
  have HCN := Lib.hid (fun (wy : World) (h : Below w8.heap.size w8 wy) (k : Nat) (hk : k < 6) => (h.cell (p := ⟨w7.heap.size, k, none⟩) hlt).trans (hcn k hk))
  have N8 := Lib.hid (N7.out.trans (hb8.mono N7.out.size))
  have M8 := Lib.hid (M7.out.trans (hb8.mono M7.out.size))
  clear hcn hq hb8
  have HCB := Lib.hid hlt
  clear hlt
  go_upto_region 10 with fail
  obtain ⟨w9, hwa⟩ : ∃ wa, w8.alloc (.cells #[.int .i64 1] 3) = wa := ⟨_, rfl⟩
  have ho : Ow ic 1 w9 w8.heap.size 3 (.slice (some ⟨w8.heap.size, 0, none⟩) 1 1) ((sqL x.d).take 1) := by rw [← hwa]; exact Ow.newl [1] ic_len rfl rfl (by decide) rfl (Nat.le_refl _)
  have HO := Lib.hid (show Ow ic 1 w9 w8.heap.size 3 (.slice (some ⟨w8.heap.size, 0, none⟩) 1 1) ((sqL x.d).take 1) ∧ Below w8.heap.size w8 w9 from ⟨ho, by rw [← hwa]; exact (Below.refl _ _).alloc (Nat.le_refl _) _⟩)
  rw [hwa]
  clear hwa ho
  go_wp2_with fail
  go_loopg [8, 7] 5 (fun gg v8 v7 wr => ∃ (k : Nat) (A : Option Addr) (c : Nat), k ≤ 5 ∧ 5 - k ≤ gg ∧ v8 = .int .i64 k ∧ v7 = .slice A (k + 1) c ∧ Hid (Ow ic 1 wr w8.heap.size 3 (.slice A (k + 1) c) ((sqL x.d).take (k + 1)) ∧ Below w8.heap.size w8 wr))
  case atStart => exact ⟨0, _, _, by omega, by omega, rfl, rfl, HO⟩
  case round =>
    clear HO
    obtain ⟨k, A, c, hk, hgg, rfl, rfl, hinv⟩ := hrel
    have hlen : ((sqL x.d).take (k + 1)).length = k + 1 := by rw [List.length_take, sq_len]; omega
    by_cases hlt : k < 5
    · obtain ⟨b3, o3, p3, e1, _, _, hl3, _, hx⟩ := (hinv.out.1.sl ic_len).at_ (show k < ((sqL x.d).take (k + 1)).length by omega)
      injection e1 with e1 e2 e3
      clear e2 e3
      subst e1
      have hsq : ((sqL x.d).take (k + 1))[k]'(by omega) = ((1 + pre x.d k : Nat) : Int) := by
        have h := sq_at x.d (show k < 6 by omega)
        rw [List.getElem_take]
        rw [List.getElem?_eq_getElem (by rw [sq_len]; omega)] at h
        injection h
      have hx0 : wr.cell? ⟨b3, o3 + k, none⟩ = some (.int .i64 ((1 + pre x.d k : Nat) : Int)) := by have h := hx 0 _ rfl; rw [hsq] at h; simpa using h
      have hc0 := HCN.out wr hinv.out.2 k (by omega)
      have hpl := pre_le x.d (show k < 6 by omega)
      have hst := sq_step x.d hlt
      obtain ⟨a, ha⟩ : ∃ a, 1 + pre x.d k = a := ⟨_, rfl⟩
      obtain ⟨g, hg⟩ : ∃ g, cn x.d k = g := ⟨_, rfl⟩
      obtain ⟨s, hs⟩ : ∃ s, a + g = s := ⟨_, rfl⟩
      rw [hg] at hpl
      have hs6 : s ≤ 7000 := by have := HTD.out; omega
      rw [ha] at hx0 hst
      rw [hg] at hc0 hst
      rw [hs] at hst
      have hsum : (a : Int) + (g : Int) = (s : Int) := by omega
      have hwr : IntKind.i64.wrap (s : Int) = (s : Int) := by simp [IntKind.wrap, IntKind.bits, IntKind.signed]; omega
      have HST := Lib.hid hst
      have HLN := Lib.hid hlen
      have HC := Lib.hid (fun (wy : World) (hy : Below wr.heap.size wr wy) => (show wy.cell? ⟨b3, o3 + k, none⟩ = some (.int .i64 (a : Int)) ∧ wy.cell? ⟨w7.heap.size, k, none⟩ = some (.int .i64 (g : Int)) ∧ True from
        ⟨(hy.cell (p := ⟨b3, o3 + k, none⟩) hl3).trans hx0, (hy.cell (p := ⟨w7.heap.size, k, none⟩) (World.block_lt_of_cell? wr _ hc0)).trans hc0, trivial⟩))
      have q1 : (0 : Int) ≤ (k : Int) := by omega
      have q2 : (k : Int) < (k : Int) + 1 := by omega
      have q3 : (k : Int) < 6 := by omega
      clear hx hsq hx0 hc0 hpl ha hg hst hlen hl3
      go_upto_region 13 with fail
      have hSw : Below wr.heap.size wr wr := Below.refl _ _
      refine wp_region_kinds (fun wy => Below wr.heap.size wr wy) [10] [11] [4, 8] [0, 1, 2, 3, 5, 6, 7, 9, 12] [0, 1, 2, 3, 4, 5, 6, 7, 8, 9, 10, 11, 12] (by kernel_rfl) (by kernel_rfl) (fun w n h => below_drewN h n) ?_
      repeat (first | (refine wpKind_free (v := ?_) (by rfl) rfl (by rfl) ?_ ?_; rotate_left 1; (focus (intro wy; go_simp; try with_reducible rfl; done)); try simp only [Act.put, List.setIfInBounds_toArray, List.set_cons_zero, List.set_cons_succ]) | (refine wpKind_held (v := ?_) (by rfl) rfl (by rfl) hSw ?_ ?_; rotate_left 1; (focus (intro wy hSy; obtain ⟨s0, s1, s2⟩ := HC.out wy hSy; go_simp; try with_reducible rfl; done)); try simp only [Act.put, List.setIfInBounds_toArray, List.set_cons_zero, List.set_cons_succ]))
      refine wpKind_keeps (by rfl) rfl (fun m1 => ?_)
      go_wp2_with fail
      show _ ∧ _
      refine ⟨(below_drewN hSw m1).alloc (Nat.le_refl _) _, ?_⟩
      clear hSw
      refine wpKind_serial (by rfl) rfl (fun m2 => ?_)
      go_wp2_with (at_builtin; refine wpList_append_sl _ rfl _ _ _ rfl w8.heap.size 3 i0 _ 8 Tryz.underlying30 hi0 hz0 hz1 hz2 (by rfl) (by omega) ic_len ic_one _ _ ((sqL x.d).take (k + 1)) [(s : Int)] rfl rfl (((hinv.out.1.drewN m1).alloc _).drewN m2) ((Sl.new1 (c := ic) (s : Int) rfl).drewN m2) (by rw [HLN.out]; simp only [maxLen, List.length_cons, List.length_nil]; omega) (by rw [HLN.out]; simp only [List.length_cons, List.length_nil]; omega) (by have := hinv.out.2.size; simp; omega) ?_; intro v1 w4 hown1 hg1 hmv1; obtain ⟨A1, c1', rfl⟩ : ∃ A cap, v1 = .slice A (k + 2) cap := (by obtain ⟨A, cap, e, _, _⟩ := hown1.shape; exact ⟨A, cap, by rw [e, List.length_append, HLN.out]; rfl⟩))
      have HB4 := Lib.hid (show Below w8.heap.size w8 w4 from app_keep (w := (wr.drewN m1).drewN m2) (below_drewN (below_drewN hinv.out.2 m1) m2) hinv.out.2.size ((hinv.out.1.drewN m1).drewN m2) hg1)
      have HO4 := Lib.hid (show Ow ic 1 w4 w8.heap.size 3 (.slice A1 (k + 2) c1') ((sqL x.d).take (k + 2)) by rw [HST.out]; exact hown1)
      clear hown1 hg1 hmv1
      repeat (first | (refine wpKind_free (v := ?_) (by rfl) rfl (by rfl) ?_ ?_; rotate_left 1; (focus (intro wy; go_simp; try with_reducible rfl; done)); try simp only [Act.put, List.setIfInBounds_toArray, List.set_cons_zero, List.set_cons_succ]) | (refine wpKind_held (v := ?_) (by rfl) rfl (by rfl) hSw ?_ ?_; rotate_left 1; (focus (intro wy hSy; obtain ⟨s0, s1, s2⟩ := HC.out wy hSy; go_simp; try with_reducible rfl; done)); try simp only [Act.put, List.setIfInBounds_toArray, List.set_cons_zero, List.set_cons_succ]))
      refine wpKind_nil fun n5 => ?_
      go_wp2_with fail
      go_roundg (5 - (k + 1))
      case measure => omega
      case rel => exact ⟨k + 1, A1, c1', by omega, by omega, by go_num, rfl, Lib.hid ⟨HO4.out.drewN n5, below_drewN HB4.out n5⟩⟩
    · have hke : k = 5 := by omega
      subst hke
      have hsx : (sqL x.d).take 6 = sqL x.d := List.take_of_length_le (by rw [sq_len]; omega)
      rw [show (5 : Nat) + 1 = 6 from rfl] at *
      rw [hsx] at hinv
      clear hlen hsx hlt hgg hk
      generalize wr = wb at *
      obtain ⟨b3, o3, p3, e1, _, _, hl3, _, hx3⟩ := (hinv.out.1.sl ic_len).form (by rw [sq_len]; omega)
      injection e1 with e1 e2 e3
      clear e2 e3
      subst e1
      have HSQ := Lib.hid (fun (wy : World) (h : Below wb.heap.size wb wy) (k : Nat) (hk : k < 6) => (show wy.cell? ⟨b3, o3 + k, none⟩ = some (.int .i64 ((1 + pre x.d k : Nat) : Int)) from (h.cell (p := ⟨b3, o3 + k, none⟩) hl3).trans (by simpa using hx3 k _ (sq_at x.d hk) 0 _ rfl)))
      have HCN2 := Lib.hid (fun (wy : World) (h : Below wb.heap.size wb wy) (k : Nat) (hk : k < 6) => HCN.out wy (hinv.out.2.trans (h.mono hinv.out.2.size)) k hk)
      have MB := Lib.hid (M8.out.trans (hinv.out.2.mono M8.out.size))
      have NB := Lib.hid (N8.out.trans (hinv.out.2.mono N8.out.size))
      have HBwb := Lib.hid (HBw1.out.trans (NB.out.mono HBw1.out.size))
      have hfr : freshRow (.int .i64 0) 1 6 3 = .cells (rowN fun _ => 0) 3 := by kernel_rfl
      have hmk := run_make_fresh (Pr := Tryz.prog) 30 3 i0 _ 1 8 Tryz.underlying30 hi0 hz0 hz1 hz2 6 6 (by omega) (by omega) (by omega) (w := wb)
      rw [hfr] at hmk
      have hmk : (Instr.makeSlice 30 (.int .i64 6) (.int .i64 6)).run Tryz.prog wb = .ok (.slice (some ⟨wb.heap.size, 0, none⟩) 6 6) (wb.alloc (.cells (rowN fun _ => 0) 3)) := hmk
      clear hl3 hx3 hfr HCN M8 N8
      go_upto_region 15 with fail
      clear hmk hinv
      obtain ⟨wd, hwa⟩ : ∃ wa, wb.alloc (.cells (rowN fun _ => 0) 3) = wa := ⟨_, rfl⟩
      have HS0 := Lib.hid (show Sel x.d (fun _ => 0) [] ∧ Below wb.heap.size wb wd ∧ wd.heap[wb.heap.size]? = some (.cells (rowN fun _ => 0) 3 (0, 0)) from
        ⟨Sel.zero _, by rw [← hwa]; exact (Below.refl _ _).alloc (Nat.le_refl _) _, by rw [← hwa]; exact heap_alloc_new _ _⟩)
      rw [hwa]
      clear hwa
      have hd0 : 0 < (linesD x.d).length := by have := HDL.out; omega
      have hx0 := ((MB.out.trans (HS0.out.2.1.mono MB.out.size)).cell (p := ⟨b1, o1 + 0, none⟩) HLX.out.1).trans (HLX.out.2 0 hd0)
      have hT0 : ba ((linesD x.d)[0]) = ba (TO x.d []) := by
        have e := linesD_items x.d
        rw [show (linesD x.d)[0] = horL x.d.hor by simp [e]]
        simp [TO, joinN]
      rw [hT0, Nat.add_zero] at hx0
      have q1 : (0 : Int) < (t : Int) + 1 := by omega
      have q2 : 0 < t + 1 := by omega
      have hsub : (t : Int) + 1 - 1 = (t : Int) := by omega
      clear hT0
      go_wp2_with fail
      clear hx0
      go_loopg [11, 10, 12] t (fun gg v11 v10 v12 wr => ∃ (its : List ItemD) (nx : Nat → Nat), its.length ≤ t ∧ t - its.length ≤ gg ∧ v11 = .int .i64 its.length ∧ v10 = .string (ba (TO x.d its)) ∧ Hid (Sel x.d nx its ∧ Below wb.heap.size wb wr ∧ wr.heap[wb.heap.size]? = some (.cells (rowN nx) 3 (0, 0))))
      case atStart => exact ⟨[], _, Nat.zero_le _, by simp, rfl, rfl, HS0⟩
      case round =>
        clear HS0
        obtain ⟨its, nx, hil, hgg, rfl, rfl, hinv⟩ := hrel
        obtain ⟨i, hi⟩ : ∃ i, its.length = i := ⟨_, rfl⟩
        have HI := Lib.hid hi
        rw [hi] at hil hgg ⊢
        clear hi
        by_cases hlt : i < t
        · have q3 : (i : Int) < (t : Int) := by omega
          have q4 : (0 : Int) ≤ (i : Int) := by omega
          go_upto_if 88 with fail
          go_cut [12] (fun v12 wx => ∃ k : Nat, k < 6 ∧ v12 = .int .i64 k ∧ wx = wr)
          case first =>
            by_cases hip : i < pk.length
            · have q5 : (i : Int) < (pk.length : Int) := by omega
              have q6 : decide ((i : Int) < (pk.length : Int)) = true := decide_eq_true q5
              have q7 : decide (i < pk.length) = true := decide_eq_true hip
              have hpb := HPV.out.below_ (HBwb.out.trans (hinv.out.2.1.mono HBwb.out.size))
              obtain ⟨b4, o4, p4, e1, _, _, _, _, hx4⟩ := hpb.at_ hip
              injection e1 with e1 e2 e3
              clear e2 e3
              subst e1
              have hx0 : wr.cell? ⟨b4, o4 + i, none⟩ = some (.int .i64 pk[i]) := by simpa using hx4 0 _ rfl
              have hpk := fun W => pick_any pk[i] 6 W (by omega) (by omega)
              obtain ⟨hp1, hp2⟩ := pick_lt pk[i] 6 (by omega)
              obtain ⟨j, hn⟩ : ∃ j : Nat, pk[i] % 6 = j := ⟨(pk[i] % 6).toNat, by omega⟩
              rw [hn] at hpk hp2
              obtain ⟨pv, hpv⟩ : ∃ pv, pk[i] = pv := ⟨_, rfl⟩
              rw [hpv] at hx0 hpk
              have HJ := Lib.hid (show j < 6 by omega)
              have HPK := Lib.hid hpk
              clear hpk hn hp1 hp2 hpv hx4 hpb hip
              go_wp2_with fail
              refine (HPK.out _).mono ?_
              rintro e w' ⟨rfl, rfl⟩
              go_wp2_with fail
              go_meet
              case rel => exact ⟨j, HJ.out, rfl, rfl⟩
            · have q5 : ¬ (i : Int) < (pk.length : Int) := by omega
              have q6 : decide ((i : Int) < (pk.length : Int)) = false := decide_eq_false q5
              have q7 : decide (i < pk.length) = false := decide_eq_false hip
              go_wp2_with fail
              go_meet
              case rel => exact ⟨0, by omega, rfl, rfl⟩
          case rest =>
            obtain ⟨k0, hk0, rfl, rfl⟩ := hcut
            have HSL2 := Lib.hid (show ∃ d, d ≤ 5 ∧ nx ((k0 + d) % 6) ≠ cn x.d ((k0 + d) % 6) by
              obtain ⟨k', hk', hne⟩ := hinv.out.1.left (by rw [HI.out, HTD.out]; exact hlt)
              refine ⟨(k' + 6 - k0) % 6, by omega, ?_⟩
              rw [show (k0 + (k' + 6 - k0) % 6) % 6 = k' by omega]
              exact hne)
            have HIN := Lib.hid hinv.out.1
            have HW0 := Lib.hid hinv.out.2
            clear hinv
            go_wp2_with fail
            go_loopg [12] 6 (fun gg v12 wr => ∃ (k d : Nat), k < 6 ∧ d ≤ gg ∧ d ≤ 5 ∧ v12 = .int .i64 k ∧ nx ((k + d) % 6) ≠ cn x.d ((k + d) % 6) ∧ Hid (Below wb.heap.size wb wr ∧ wr.heap[wb.heap.size]? = some (.cells (rowN nx) 3 (0, 0))))
            case atStart => exact (by obtain ⟨d, h1, h2⟩ := HSL2.out; exact ⟨k0, d, hk0, by omega, h1, rfl, h2, HW0⟩)
            case round =>
              clear HSL2 HW0
              obtain ⟨k, d, hk, hdg, hd5, rfl, hne, hinv⟩ := hrel
              have hnl := hinv.out.2
              have hblk : wb.heap.size < wr.heap.size := (Array.getElem?_eq_some_iff.1 hnl).1
              have hc1 := row_cell hnl hk
              have hc2 := HCN2.out wr hinv.out.1 k hk
              have HC := Lib.hid (fun (wy : World) (hy : Below wr.heap.size wr wy) => (show wy.cell? ⟨wb.heap.size, k, none⟩ = some (.int .i64 (nx k)) ∧ wy.cell? ⟨w7.heap.size, k, none⟩ = some (.int .i64 (cn x.d k)) ∧ True from
                ⟨(hy.cell (p := ⟨wb.heap.size, k, none⟩) hblk).trans hc1, (hy.cell (p := ⟨w7.heap.size, k, none⟩) (World.block_lt_of_cell? wr _ hc2)).trans hc2, trivial⟩))
              have q5 : (0 : Int) ≤ (k : Int) := by omega
              have q6 : (k : Int) < 6 := by omega
              have HNE := Lib.hid hne
              have hle := HIN.out.le k hk
              have hpl := pre_le x.d hk
              rw [HTD.out] at hpl
              clear hnl hc1 hc2 hne
              by_cases hnk : nx k = cn x.d k
              · have q7 : ((nx k : Int) == (cn x.d k : Int)) = true := beq_iff_eq.2 (by omega)
                have q8 : (nx k == cn x.d k) = true := beq_iff_eq.2 hnk
                have hd0 : d ≠ 0 := fun e => HNE.out (by rw [e, Nat.add_zero, Nat.mod_eq_of_lt hk]; exact hnk)
                have HN2 := Lib.hid (show nx (((k + 1) % 6 + (d - 1)) % 6) ≠ cn x.d (((k + 1) % 6 + (d - 1)) % 6) by
                  rw [show ((k + 1) % 6 + (d - 1)) % 6 = (k + d) % 6 by omega]; exact HNE.out)
                obtain ⟨k1, hk1⟩ : ∃ k1, (k + 1) % 6 = k1 := ⟨_, rfl⟩
                rw [hk1] at HN2
                have hk16 : k1 < 6 := by omega
                have hrem : ((k : Int) + 1).tmod 6 = (k1 : Int) := by rw [Int.tmod_eq_emod_of_nonneg (by omega)]; omega
                have hrem2 : ((k : Int) + 1) % 6 = (k1 : Int) := by omega
                generalize nx k = A at *
                generalize cn x.d k = B at *
                clear hnk hk1 hle hpl
                go_upto_region 22 with fail
                have hSw : Below wr.heap.size wr wr := Below.refl _ _
                refine wp_region_kinds (fun wy => Below wr.heap.size wr wy) [] [] [3, 7] [0, 1, 2, 4, 5, 6, 8] [0, 1, 2, 3, 4, 5, 6, 7, 8] (by kernel_rfl) (by kernel_rfl) (fun w n h => below_drewN h n) ?_
                repeat (first | (refine wpKind_free (v := ?_) (by rfl) rfl (by rfl) ?_ ?_; rotate_left 1; (focus (intro wy; go_simp; try with_reducible rfl; done)); try simp only [Act.put, List.setIfInBounds_toArray, List.set_cons_zero, List.set_cons_succ]) | (refine wpKind_held (v := ?_) (by rfl) rfl (by rfl) hSw ?_ ?_; rotate_left 1; (focus (intro wy hSy; obtain ⟨s0, s1, s2⟩ := HC.out wy hSy; go_simp; try with_reducible rfl; done)); try simp only [Act.put, List.setIfInBounds_toArray, List.set_cons_zero, List.set_cons_succ]))
                refine wpKind_nil fun n9 => ?_
                go_wp2_with fail
                go_roundg (d - 1)
                case measure => omega
                case rel => exact ⟨k1, d - 1, hk16, by omega, by omega, by go_num, HN2.out, Lib.hid ⟨below_drewN hinv.out.1 n9, hinv.out.2⟩⟩
              · have q7 : ((nx k : Int) == (cn x.d k : Int)) = false := beq_eq_false_iff_ne.2 (by omega)
                have q8 : (nx k == cn x.d k) = false := beq_eq_false_iff_ne.2 hnk
                have hnl : nx k < cn x.d k := by omega
                have hla := line_at x.d hk hnl
                have hi2 : 1 + pre x.d k + nx k < (linesD x.d).length := by have := HDL.out; omega
                rw [List.getElem?_eq_getElem hi2] at hla
                injection hla with hla
                have HST := Lib.hid (HIN.out.step hk hnl)
                have hsc := HSQ.out
                have hxl := HLX.out.2 (1 + pre x.d k + nx k) hi2
                rw [hla] at hxl
                have hyl : ((linesD x.d)[1 + pre x.d k + nx k]'hi2).length ≤ 4000 := linesD_le x HC0.out _ (List.getElem_mem hi2)
                rw [hla] at hyl
                have hto := to_step x.d its ((KI x.d k)[nx k]'hnl)
                have z0 := to_small HC0.out its HIN.out.mem (by have := HI.out; omega)
                obtain ⟨it, hit⟩ : ∃ it, (KI x.d k)[nx k]'hnl = it := ⟨_, rfl⟩
                rw [hit] at hxl hyl hto
                have HST2 := Lib.hid (show Sel x.d (upd nx k) (its ++ [it]) by rw [← hit]; exact HST.out)
                obtain ⟨y, hy⟩ : ∃ y, line it.P.1 = y := ⟨_, rfl⟩
                rw [hy] at hxl hyl hto
                have HTO := Lib.hid hto
                have HXL := Lib.hid hxl
                obtain ⟨a, ha⟩ : ∃ a, 1 + pre x.d k = a := ⟨_, rfl⟩
                obtain ⟨n, hn⟩ : ∃ n, nx k = n := ⟨_, rfl⟩
                obtain ⟨i2, hi2e⟩ : ∃ i2, a + n = i2 := ⟨_, rfl⟩
                rw [ha, hn, hi2e] at HXL
                have HN := Lib.hid hn
                have HA := Lib.hid ha
                have hn6 : n ≤ 6200 := by omega
                have hi26 : i2 ≤ 6200 := by omega
                have hsum : (a : Int) + (n : Int) = (i2 : Int) := by omega
                have hwr2 : IntKind.i64.wrap (i2 : Int) = (i2 : Int) := by simp [IntKind.wrap, IntKind.bits, IntKind.signed]; omega
                have r1 : (0 : Int) ≤ (i2 : Int) := by omega
                have r2 : (i2 : Int) < (t : Int) + 1 := by omega
                clear hla hi2 hsc hxl hto hit hy hle hpl hnl HST
                go_upto_region 22 with fail
                have hSw : Below wr.heap.size wr wr := Below.refl _ _
                refine wp_region_kinds (fun wy => Below wr.heap.size wr wy) [] [] [3, 7] [0, 1, 2, 4, 5, 6, 8] [0, 1, 2, 3, 4, 5, 6, 7, 8] (by kernel_rfl) (by kernel_rfl) (fun w n h => below_drewN h n) ?_
                repeat (first | (refine wpKind_free (v := ?_) (by rfl) rfl (by rfl) ?_ ?_; rotate_left 1; (focus (intro wy; go_simp; try with_reducible rfl; done)); try simp only [Act.put, List.setIfInBounds_toArray, List.set_cons_zero, List.set_cons_succ]) | (refine wpKind_held (v := ?_) (by rfl) rfl (by rfl) hSw ?_ ?_; rotate_left 1; (focus (intro wy hSy; obtain ⟨s0, s1, s2⟩ := HC.out wy hSy; go_simp; try with_reducible rfl; done)); try simp only [Act.put, List.setIfInBounds_toArray, List.set_cons_zero, List.set_cons_succ]))
                refine wpKind_nil fun n9 => ?_
                have HE := Lib.hid (show Below wb.heap.size wb (wr.drewN n9) ∧ (wr.drewN n9).heap[wb.heap.size]? = some (.cells (rowN nx) 3 (0, 0)) from ⟨below_drewN hinv.out.1 n9, hinv.out.2⟩)
                clear hSw HC q7 q8 hblk
                generalize wr.drewN n9 = we at *
                go_upto_region 24 with fail
                have hnb : wb.heap.size < we.heap.size := (Array.getElem?_eq_some_iff.1 HE.out.2).1
                have hc0 := HSQ.out we HE.out.1 k hk
                rw [HA.out] at hc0
                have hc1 := row_cell HE.out.2 hk
                rw [HN.out] at hc1
                have hc2 := ((MB.out.trans (HE.out.1.mono MB.out.size)).cell (p := ⟨b1, o1 + i2, none⟩) HLX.out.1).trans HXL.out
                have HC := Lib.hid (fun (wy : World) (hy : Below we.heap.size we wy) => (show wy.cell? ⟨b3, o3 + k, none⟩ = some (.int .i64 (a : Int)) ∧ wy.cell? ⟨wb.heap.size, k, none⟩ = some (.int .i64 (n : Int)) ∧ wy.cell? ⟨b1, o1 + i2, none⟩ = some (.string (ba y)) from
                  ⟨(hy.cell (p := ⟨b3, o3 + k, none⟩) (World.block_lt_of_cell? we _ hc0)).trans hc0, (hy.cell (p := ⟨wb.heap.size, k, none⟩) hnb).trans hc1, (hy.cell (p := ⟨b1, o1 + i2, none⟩) (World.block_lt_of_cell? we _ hc2)).trans hc2⟩))
                have zy : (ba y).size ≤ 4000 := by rw [ba_size]; exact hyl
                obtain ⟨L, hL⟩ : ∃ L, ba (TO x.d its) = L := ⟨_, rfl⟩
                rw [hL] at z0 HTO ⊢
                have z1 : (L ++ ⟨#[10]⟩).size ≤ 24810202 := by rw [ByteArray.size_append]; exact Nat.add_le_add z0 (Nat.le_refl _)
                have z2 : (L ++ ⟨#[10]⟩ ++ ba y).size ≤ 24814202 := by rw [ByteArray.size_append]; exact Nat.add_le_add z1 zy
                clear hc0 hc2 hL hyl
                have hSw : Below we.heap.size we we := Below.refl _ _
                refine wp_region_kinds (fun wy => Below we.heap.size we wy) [] [] [6, 10, 13] [0, 1, 2, 3, 4, 5, 7, 8, 9, 11, 12, 14, 15] [0, 1, 2, 3, 4, 5, 6, 7, 8, 9, 10, 11, 12, 13, 14, 15] (by kernel_rfl) (by kernel_rfl) (fun w n h => below_drewN h n) ?_
                repeat (first | (refine wpKind_free (v := ?_) (by rfl) rfl (by rfl) ?_ ?_; rotate_left 1; (focus (intro wy; go_simp; rw [if_neg (by omega)]; done)); try simp only [Act.put, List.setIfInBounds_toArray, List.set_cons_zero, List.set_cons_succ]) | (refine wpKind_free (v := ?_) (by rfl) rfl (by rfl) ?_ ?_; rotate_left 1; (focus (intro wy; go_simp; try with_reducible rfl; done)); try simp only [Act.put, List.setIfInBounds_toArray, List.set_cons_zero, List.set_cons_succ]) | (refine wpKind_held (v := ?_) (by rfl) rfl (by rfl) hSw ?_ ?_; rotate_left 1; (focus (intro wy hSy; obtain ⟨s0, s1, s2⟩ := HC.out wy hSy; go_simp; try with_reducible rfl; done)); try simp only [Act.put, List.setIfInBounds_toArray, List.set_cons_zero, List.set_cons_succ]))
                refine wpKind_nil fun n8 => ?_
                have hfz : we.frozen? ⟨wb.heap.size, k, none⟩ = false := Lib.frozen_of_heap HE.out.2 k
                clear hSw HC
                go_wp2_with fail
                have HR := Lib.hid (row_set (w := we.drewN n8) HE.out.2 hk)
                rw [HN.out] at HR
                go_roundg (t - (i + 1))
                case measure => omega
                case rel => exact ⟨its ++ [it], upd nx k, by rw [List.length_append, HI.out, List.length_singleton]; omega, by rw [List.length_append, HI.out, List.length_singleton]; omega, by rw [List.length_append, HI.out, List.length_singleton]; go_num, by rw [← HTO.out], Lib.hid ⟨HST2.out, (below_drewN HE.out.1 n8).setCell (p := ⟨wb.heap.size, k, none⟩) (Nat.le_refl _) _, HR.out⟩⟩
        · have hit : i = t := by omega
          have HSM := Lib.hid (hinv.out.1.same (by rw [HI.out, HTD.out]; exact hit))
          have z9 := to_small HC0.out its hinv.out.1.mem (by have := HI.out; omega)
          have HBw19 := Lib.hid (HBwb.out.trans (hinv.out.2.1.mono HBwb.out.size))
          have N19 := Lib.hid (NB.out.trans (hinv.out.2.1.mono NB.out.size))
          have q3 : ¬ (i : Int) < (t : Int) := by omega
          obtain ⟨S, hS⟩ : ∃ S, ba (TO x.d its) = S := ⟨_, rfl⟩
          have HPS := Lib.hid (order_back HC0.out its HSM.out S (by rw [← hS]; rfl))
          rw [hS] at z9 ⊢
          clear hS HSM hinv HPL HPC HPV HCN2 HSQ MB hit hlt
          have hpr := sparse_any S wr (HT.out.below HBw19.out) (HL.out.below HBw19.out)
          obtain ⟨⟨PD, fx, g2, g3⟩, hPD⟩ : ∃ r, parseS S = r := ⟨_, rfl⟩
          rw [hPD] at hpr HPS
          dsimp only [FaultD.v] at hpr
          have HPR := Lib.hid hpr
          clear hpr hPD
          go_wp2_with fail
          refine HPR.out.mono ?_
          clear HPR
          rintro e w30 ⟨y, hyd, rfl, hgy, hb⟩
          have HBw30 := Lib.hid (HBw19.out.trans (hb.mono HBw19.out.size))
          have HNw30 := Lib.hid hb
          have HYD := Lib.hid hyd
          clear hb hyd
          obtain ⟨Ys, Ys_, Yp, Yp_, Yd, Yd_, Yr, Yr_, Yt, Yt_, Yh, Yh_, eys, eyp, eyd, eyr, eyt, eyh⟩ := SheetAt.forms hgy
          have Vy : y.v = .agg #[.int .i64 y.hor, .slice Ys y.stops.length Ys_, .slice Yp y.paths.length Yp_, .slice Yd y.doors.length Yd_, .slice Yr y.routes.length Yr_, .slice Yt y.trips.length Yt_, .slice Yh y.hazs.length Yh_] := by
            unfold SheetM.v; rw [eys, eyp, eyd, eyr, eyt, eyh]
          rw [Vy]
          have HVy := Lib.hid Vy
          have HGy := Lib.hid hgy
          have HFy := Lib.hid (show y.vs = .slice Ys y.stops.length Ys_ ∧ y.vp = .slice Yp y.paths.length Yp_ ∧ y.vd = .slice Yd y.doors.length Yd_ ∧ y.vr = .slice Yr y.routes.length Yr_ ∧ y.vt = .slice Yt y.trips.length Yt_ ∧ y.vh = .slice Yh y.hazs.length Yh_ from ⟨eys, eyp, eyd, eyr, eyt, eyh⟩)
          clear Vy hgy eys eyp eyd eyr eyt eyh
          go_upto_region 27 with fail
          obtain ⟨w31, hwa⟩ : ∃ wa, (w30.alloc (.cells #[.int .i64 y.hor, .slice Ys y.stops.length Ys_, .slice Yp y.paths.length Yp_, .slice Yd y.doors.length Yd_, .slice Yr y.routes.length Yr_, .slice Yt y.trips.length Yt_, .slice Yh y.hazs.length Yh_] 29)).alloc (.cells #[.int .i64 fx, .int .i64 g2, .int .i64 g3] 39) = wa := ⟨_, rfl⟩
          have hba : Below w30.heap.size w30 w31 := by rw [← hwa]; exact ((Below.refl _ _).alloc (Nat.le_refl _) _).alloc (by simp) _
          have hza : w31.heap.size = w30.heap.size + 2 := by rw [← hwa]; simp
          have hA : w31.heap[w30.heap.size]? = some (.cells #[.int .i64 y.hor, .slice Ys y.stops.length Ys_, .slice Yp y.paths.length Yp_, .slice Yd y.doors.length Yd_, .slice Yr y.routes.length Yr_, .slice Yt y.trips.length Yt_, .slice Yh y.hazs.length Yh_] 29 (0, 0)) := by rw [← hwa, Below.heap_alloc _ _ _ (by simp)]; exact heap_alloc_new _ _
          have hB : w31.heap[w30.heap.size + 1]? = some (.cells #[.int .i64 fx, .int .i64 g2, .int .i64 g3] 39 (0, 0)) := by
            rw [← hwa]
            have h := heap_alloc_new (w30.alloc (.cells #[.int .i64 y.hor, .slice Ys y.stops.length Ys_, .slice Yp y.paths.length Yp_, .slice Yd y.doors.length Yd_, .slice Yr y.routes.length Yr_, .slice Yt y.trips.length Yt_, .slice Yh y.hazs.length Yh_] 29)) (.cells #[.int .i64 fx, .int .i64 g2, .int .i64 g3] 39)
            rw [show (w30.alloc (.cells #[.int .i64 y.hor, .slice Ys y.stops.length Ys_, .slice Yp y.paths.length Yp_, .slice Yd y.doors.length Yd_, .slice Yr y.routes.length Yr_, .slice Yt y.trips.length Yt_, .slice Yh y.hazs.length Yh_] 29)).heap.size = w30.heap.size + 1 by simp] at h
            exact h
          have Cy := Lib.hid (fun (wy : World) (h : Below w31.heap.size w31 wy) => (show wy.cell? ⟨w30.heap.size, 0, none⟩ = some (.int .i64 y.hor) ∧ wy.cell? ⟨w30.heap.size, 1, none⟩ = some (.slice Ys y.stops.length Ys_) ∧ wy.cell? ⟨w30.heap.size, 2, none⟩ = some (.slice Yp y.paths.length Yp_) ∧ wy.cell? ⟨w30.heap.size, 3, none⟩ = some (.slice Yd y.doors.length Yd_) ∧ wy.cell? ⟨w30.heap.size, 4, none⟩ = some (.slice Yr y.routes.length Yr_) ∧ wy.cell? ⟨w30.heap.size, 5, none⟩ = some (.slice Yt y.trips.length Yt_) ∧ wy.cell? ⟨w30.heap.size, 6, none⟩ = some (.slice Yh y.hazs.length Yh_) from ⟨(h.cell (p := ⟨w30.heap.size, 0, none⟩) (by show w30.heap.size < _; omega)).trans (Lib.cell_of_heap hA 0), (h.cell (p := ⟨w30.heap.size, 1, none⟩) (by show w30.heap.size < _; omega)).trans (Lib.cell_of_heap hA 1), (h.cell (p := ⟨w30.heap.size, 2, none⟩) (by show w30.heap.size < _; omega)).trans (Lib.cell_of_heap hA 2), (h.cell (p := ⟨w30.heap.size, 3, none⟩) (by show w30.heap.size < _; omega)).trans (Lib.cell_of_heap hA 3), (h.cell (p := ⟨w30.heap.size, 4, none⟩) (by show w30.heap.size < _; omega)).trans (Lib.cell_of_heap hA 4), (h.cell (p := ⟨w30.heap.size, 5, none⟩) (by show w30.heap.size < _; omega)).trans (Lib.cell_of_heap hA 5), (h.cell (p := ⟨w30.heap.size, 6, none⟩) (by show w30.heap.size < _; omega)).trans (Lib.cell_of_heap hA 6)⟩))
          have Fy := Lib.hid (fun (wy : World) (h : Below w31.heap.size w31 wy) => (show wy.cell? ⟨w30.heap.size + 1, 0, none⟩ = some (.int .i64 fx) ∧ wy.cell? ⟨w30.heap.size + 1, 1, none⟩ = some (.int .i64 g2) ∧ wy.cell? ⟨w30.heap.size + 1, 2, none⟩ = some (.int .i64 g3) from ⟨(h.cell (p := ⟨w30.heap.size + 1, 0, none⟩) (by show w30.heap.size + 1 < _; omega)).trans (Lib.cell_of_heap hB 0), (h.cell (p := ⟨w30.heap.size + 1, 1, none⟩) (by show w30.heap.size + 1 < _; omega)).trans (Lib.cell_of_heap hB 1), (h.cell (p := ⟨w30.heap.size + 1, 2, none⟩) (by show w30.heap.size + 1 < _; omega)).trans (Lib.cell_of_heap hB 2)⟩))
          have HBw31 := Lib.hid (HBw30.out.trans (hba.mono HBw30.out.size))
          have HGy2 := Lib.hid (HGy.out.below_ hba)
          clear HGy
          have HGy := Lib.hid HGy2.out
          clear HGy2
          have HNw31 := Lib.hid hba
          try rw [hwa]
          clear hwa hba hza hA hB
          have NZ := Lib.hid (HNw30.out.trans (HNw31.out.mono HNw30.out.size))
          have N31 := Lib.hid (N19.out.trans (NZ.out.mono N19.out.size))
          have HC := Lib.hid (fun (wy : World) (h : Below w31.heap.size w31 wy) => And.intro (Cx.out wy (N31.out.trans (h.mono N31.out.size))) (And.intro (Cy.out wy h) (Fy.out wy h)))
          by_cases hbig : 65536 < S.size
          · have q1 : (65536 : Int) < (S.size : Int) := by omega
            have q2 : decide ((65536 : Int) < (S.size : Int)) = true := decide_eq_true q1
            have q3 : decide (65536 < S.size) = true := decide_eq_true hbig
            clear hbig
            go_wp2_with fail
            go_ret
            exact ⟨rfl, HBw31.out⟩
          have q1 : ¬ (65536 : Int) < (S.size : Int) := by omega
          have q2 : decide ((65536 : Int) < (S.size : Int)) = false := decide_eq_false q1
          have q3 : decide (65536 < S.size) = false := decide_eq_false hbig
          have hps := HPS.out (by omega)
          injection hps with hr1 hr2
          injection hr2 with hr2 hr3 hr4
          subst hr1 hr2 hr3 hr4
          have HK1 := Lib.hid (fun (wy : World) (h : Below w31.heap.size w31 wy) => HVx.out ▸ HVy.out ▸ sameSh_any x y wy (HGx.out.below_ (N31.out.trans (h.mono N31.out.size))) (HGy.out.below_ h) (may_small HC0.out))
          rw [decide_eq_true (show x.d = y.d from HYD.out.symm)] at HK1
          have q7 := fe0
          clear hbig HPS
          obtain ⟨⟨x0, x1, x2, x3, x4, x5, x6⟩, ⟨y0, y1, y2, y3, y4, y5, y6⟩, f0, f1, f2⟩ := HC.out w31 (Below.refl _ _)
          clear HC
          go_wp2_with fail
          refine (HK1.out w31 (Below.refl _ _)).mono ?_
          rintro e w32 ⟨rfl, hb⟩
          have HB32 := Lib.hid (HBw31.out.trans (hb.mono HBw31.out.size))
          clear hb x0 x1 x2 x3 x4 x5 x6 y0 y1 y2 y3 y4 y5 y6 f0 f1 f2
          go_wp2_with fail
          go_ret
          exact ⟨rfl, HB32.out⟩
end Go.Proofs.YteonefgbdphmiaaGreatDoor
