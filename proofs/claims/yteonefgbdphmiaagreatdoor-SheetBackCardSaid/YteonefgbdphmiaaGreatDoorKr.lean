/- The law SheetBack: its walk. Printed by wip/bin/genkr.py. -/
import Derived.Test.YteonefgbdphmiaaGreatDoorKb
import Derived.Test.YteonefgbdphmiaaGreatDoorWl
import Derived.Test.YteonefgbdphmiaaGreatDoorPm
import Derived.Test.YteonefgbdphmiaaGreatDoorPk
import Derived.Test.YteonefgbdphmiaaGreatDoorZs
import Derived.Test.YteonefgbdphmiaaGreatDoorZf
import Derived.Test.YteonefgbdphmiaaGreatDoorCk
import Derived.Test.YteonefgbdphmiaaGreatDoorMh
import Derived.Deep.CutBlock
import Derived.Deep.CutRange
import Derived.Deep.DeepCutAuto
namespace Go.Proofs.YteonefgbdphmiaaGreatDoor
open Go.RowKit
theorem nqb (W : World) : (Go.binOp BinOp.neq 39 (.agg #[.int .i64 0, .int .i64 0, .int .i64 0]) (.agg #[.int .i64 0, .int .i64 0, .int .i64 0])).run Tryz.prog W = .ok (.bool false) W := by kernel_rfl
theorem eqb2 (W : World) : (Go.binOp BinOp.eql 39 (.agg #[.int .i64 7, .int .i64 2, .int .i64 1]) (.agg #[.int .i64 7, .int .i64 2, .int .i64 1])).run Tryz.prog W = .ok (.bool true) W := by kernel_rfl
theorem store7 {W : World} {p : Nat} {a0 a1 a2 a3 a4 a5 a6 : Value} (v0 v1 v2 v3 v4 v5 v6 : Value) {t : TypeId} (h : W.heap[p]? = some (.cells #[a0, a1, a2, a3, a4, a5, a6] t (0, 0))) :
    ∃ Y, (((((((W.setCell ⟨p, 0, none⟩ v0).setCell ⟨p, 1, none⟩ v1).setCell ⟨p, 2, none⟩ v2).setCell ⟨p, 3, none⟩ v3).setCell ⟨p, 4, none⟩ v4).setCell ⟨p, 5, none⟩ v5).setCell ⟨p, 6, none⟩ v6) = Y ∧
      Y.heap[p]? = some (.cells #[v0, v1, v2, v3, v4, v5, v6] t (0, 0)) ∧ (∀ k, k ≠ p → Y.heap[k]? = W.heap[k]?) ∧ W.heap.size ≤ Y.heap.size ∧ ∀ (B : Nat) (w0 : World), B ≤ p → Below B w0 W → Below B w0 Y := by
  refine ⟨_, rfl, ?_, fun k hk => ?_, by simp [World.setCell], fun B w0 hB hb => ((((((hb.setCell (p := ⟨p, 0, none⟩) hB _).setCell (p := ⟨p, 1, none⟩) hB _).setCell (p := ⟨p, 2, none⟩) hB _).setCell (p := ⟨p, 3, none⟩) hB _).setCell (p := ⟨p, 4, none⟩) hB _).setCell (p := ⟨p, 5, none⟩) hB _).setCell (p := ⟨p, 6, none⟩) hB _⟩
  · skip
    have q0 : (W.setCell ⟨p, 0, none⟩ v0).heap[p]? = some (.cells #[v0, a1, a2, a3, a4, a5, a6] t (0, 0)) := heap_setCell_same _ p 0 _ _ v0 h
    have q1 : ((W.setCell ⟨p, 0, none⟩ v0).setCell ⟨p, 1, none⟩ v1).heap[p]? = some (.cells #[v0, v1, a2, a3, a4, a5, a6] t (0, 0)) := heap_setCell_same _ p 1 _ _ v1 q0
    have q2 : (((W.setCell ⟨p, 0, none⟩ v0).setCell ⟨p, 1, none⟩ v1).setCell ⟨p, 2, none⟩ v2).heap[p]? = some (.cells #[v0, v1, v2, a3, a4, a5, a6] t (0, 0)) := heap_setCell_same _ p 2 _ _ v2 q1
    have q3 : ((((W.setCell ⟨p, 0, none⟩ v0).setCell ⟨p, 1, none⟩ v1).setCell ⟨p, 2, none⟩ v2).setCell ⟨p, 3, none⟩ v3).heap[p]? = some (.cells #[v0, v1, v2, v3, a4, a5, a6] t (0, 0)) := heap_setCell_same _ p 3 _ _ v3 q2
    have q4 : (((((W.setCell ⟨p, 0, none⟩ v0).setCell ⟨p, 1, none⟩ v1).setCell ⟨p, 2, none⟩ v2).setCell ⟨p, 3, none⟩ v3).setCell ⟨p, 4, none⟩ v4).heap[p]? = some (.cells #[v0, v1, v2, v3, v4, a5, a6] t (0, 0)) := heap_setCell_same _ p 4 _ _ v4 q3
    have q5 : ((((((W.setCell ⟨p, 0, none⟩ v0).setCell ⟨p, 1, none⟩ v1).setCell ⟨p, 2, none⟩ v2).setCell ⟨p, 3, none⟩ v3).setCell ⟨p, 4, none⟩ v4).setCell ⟨p, 5, none⟩ v5).heap[p]? = some (.cells #[v0, v1, v2, v3, v4, v5, a6] t (0, 0)) := heap_setCell_same _ p 5 _ _ v5 q4
    have q6 : (((((((W.setCell ⟨p, 0, none⟩ v0).setCell ⟨p, 1, none⟩ v1).setCell ⟨p, 2, none⟩ v2).setCell ⟨p, 3, none⟩ v3).setCell ⟨p, 4, none⟩ v4).setCell ⟨p, 5, none⟩ v5).setCell ⟨p, 6, none⟩ v6).heap[p]? = some (.cells #[v0, v1, v2, v3, v4, v5, v6] t (0, 0)) := heap_setCell_same _ p 6 _ _ v6 q5
    exact q6
  · rw [Below.heap_setCell _ _ _ _ hk, Below.heap_setCell _ _ _ _ hk, Below.heap_setCell _ _ _ _ hk, Below.heap_setCell _ _ _ _ hk, Below.heap_setCell _ _ _ _ hk, Below.heap_setCell _ _ _ _ hk, Below.heap_setCell _ _ _ _ hk]
theorem store3 {W : World} {p : Nat} {a0 a1 a2 : Value} (v0 v1 v2 : Value) {t : TypeId} (h : W.heap[p]? = some (.cells #[a0, a1, a2] t (0, 0))) :
    ∃ Y, (((W.setCell ⟨p, 0, none⟩ v0).setCell ⟨p, 1, none⟩ v1).setCell ⟨p, 2, none⟩ v2) = Y ∧
      Y.heap[p]? = some (.cells #[v0, v1, v2] t (0, 0)) ∧ (∀ k, k ≠ p → Y.heap[k]? = W.heap[k]?) ∧ W.heap.size ≤ Y.heap.size ∧ ∀ (B : Nat) (w0 : World), B ≤ p → Below B w0 W → Below B w0 Y := by
  refine ⟨_, rfl, ?_, fun k hk => ?_, by simp [World.setCell], fun B w0 hB hb => ((hb.setCell (p := ⟨p, 0, none⟩) hB _).setCell (p := ⟨p, 1, none⟩) hB _).setCell (p := ⟨p, 2, none⟩) hB _⟩
  · skip
    have q0 : (W.setCell ⟨p, 0, none⟩ v0).heap[p]? = some (.cells #[v0, a1, a2] t (0, 0)) := heap_setCell_same _ p 0 _ _ v0 h
    have q1 : ((W.setCell ⟨p, 0, none⟩ v0).setCell ⟨p, 1, none⟩ v1).heap[p]? = some (.cells #[v0, v1, a2] t (0, 0)) := heap_setCell_same _ p 1 _ _ v1 q0
    have q2 : (((W.setCell ⟨p, 0, none⟩ v0).setCell ⟨p, 1, none⟩ v1).setCell ⟨p, 2, none⟩ v2).heap[p]? = some (.cells #[v0, v1, v2] t (0, 0)) := heap_setCell_same _ p 2 _ _ v2 q1
    exact q2
  · rw [Below.heap_setCell _ _ _ _ hk, Below.heap_setCell _ _ _ _ hk, Below.heap_setCell _ _ _ _ hk]
theorem Sl.lt_ {α : Type} {c : α → List Value} {size : Nat} {w : World} {v : Value} {l : List α} {P : Nat → Prop} (h : Sl c size w v l P) : Sl c size w v l (fun b => P b ∧ b < w.heap.size) := by
  obtain ⟨A, cap, e, h1, h2, h3⟩ := h
  refine ⟨A, cap, e, h1, h2, fun hn => ?_⟩
  obtain ⟨b, off, ea, hb, hP, hc⟩ := h3 hn
  exact ⟨b, off, ea, hb, ⟨hP, hb⟩, hc⟩
theorem SheetM.Good.lt_ {x : SheetM} {w : World} {P : Nat → Prop} (h : x.Good w P) : x.Good w (fun b => P b ∧ b < w.heap.size) :=
  ⟨h.stops.lt_, h.paths.lt_, h.doors.lt_, h.routes.lt_, fun r hr => ⟨(h.each r hr).stops.lt_, (h.each r hr).rides.lt_, (h.each r hr).stays.lt_⟩, h.trips.lt_, h.hazs.lt_⟩
section
variable {P : Program} {Q : Exit → Act → World → Prop} {S : World → Prop}
theorem goon_all {a : Act} {w : World} {l : List Oper} {s1 s2 hd fr : List Nat} {n : Nat} {listed : Array Bool} (r : List Nat) (hr : Region.ready .any l.toArray listed = r) (hn : r ≠ [])
    (h : ∀ i ∈ r, hOp P l.toArray (NoPanic Q) S (kdL s1 s2 hd fr) i (GoOn P l.toArray (NoPanic Q) S (kdL s1 s2 hd fr) n (listed.setIfInBounds i true)) a w) : GoOn P l.toArray (NoPanic Q) S (kdL s1 s2 hd fr) (n + 1) listed a w := fun inv => by
  subst hr
  refine ⟨fun h0 => absurd h0 hn, fun k hk => ?_⟩
  exact hOp_mono (fun a w h => h (inv.set hk)) (h k hk)
end
set_option maxHeartbeats 8000000 in
set_option maxRecDepth 100000 in
theorem sback_any (w : World) (x : SheetM) (at_ : Int) {P : Nat → Prop} (hg : x.Good w P) (hm : ∀ s ∈ namesD x.d, s.length ≤ maxLen) (hT : Tabs w) (hL : LibOk w) : Calls Tryz.prog 7 #[x.v, .int .i64 at_] w fun e w' => e = .returned (.bool true) ∧ Below w.heap.size w w' := by
  have HT := Lib.hid hT
  have HL := Lib.hid hL
  have HM := Lib.hid hm
  clear hT hL hm
  obtain ⟨Xs, Xs_, Xp, Xp_, Xd, Xd_, Xr, Xr_, Xt, Xt_, Xh, Xh_, exs, exp, exd, exr, ext, exh⟩ := SheetAt.forms hg
  have Vx : x.v = .agg #[.int .i64 x.hor, .slice Xs x.stops.length Xs_, .slice Xp x.paths.length Xp_, .slice Xd x.doors.length Xd_, .slice Xr x.routes.length Xr_, .slice Xt x.trips.length Xt_, .slice Xh x.hazs.length Xh_] := by
    unfold SheetM.v; rw [exs, exp, exd, exr, ext, exh]
  rw [Vx]
  have HVx := Lib.hid Vx
  have HGx := Lib.hid hg
  have HFx := Lib.hid (show x.vs = .slice Xs x.stops.length Xs_ ∧ x.vp = .slice Xp x.paths.length Xp_ ∧ x.vd = .slice Xd x.doors.length Xd_ ∧ x.vr = .slice Xr x.routes.length Xr_ ∧ x.vt = .slice Xt x.trips.length Xt_ ∧ x.vh = .slice Xh x.hazs.length Xh_ from ⟨exs, exp, exd, exr, ext, exh⟩)
  clear Vx hg exs exp exd exr ext exh
  go_enter Tryz.func7, Tryz.ntmps7
  go_upto_region 1 with fail
  obtain ⟨w1, hwa⟩ : ∃ wa, w.alloc (.cells #[.int .i64 x.hor, .slice Xs x.stops.length Xs_, .slice Xp x.paths.length Xp_, .slice Xd x.doors.length Xd_, .slice Xr x.routes.length Xr_, .slice Xt x.trips.length Xt_, .slice Xh x.hazs.length Xh_] 29) = wa := ⟨_, rfl⟩
  have hba : Below w.heap.size w w1 := by rw [← hwa]; exact (Below.refl _ _).alloc (Nat.le_refl _) _
  have hza : w1.heap.size = w.heap.size + 1 := by rw [← hwa]; simp
  have hA : w1.heap[w.heap.size]? = some (.cells #[.int .i64 x.hor, .slice Xs x.stops.length Xs_, .slice Xp x.paths.length Xp_, .slice Xd x.doors.length Xd_, .slice Xr x.routes.length Xr_, .slice Xt x.trips.length Xt_, .slice Xh x.hazs.length Xh_] 29 (0, 0)) := by rw [← hwa]; exact heap_alloc_new _ _
  have Cx := Lib.hid (fun (wy : World) (h : Below w1.heap.size w1 wy) => (show wy.cell? ⟨w.heap.size, 0, none⟩ = some (.int .i64 x.hor) ∧ wy.cell? ⟨w.heap.size, 1, none⟩ = some (.slice Xs x.stops.length Xs_) ∧ wy.cell? ⟨w.heap.size, 2, none⟩ = some (.slice Xp x.paths.length Xp_) ∧ wy.cell? ⟨w.heap.size, 3, none⟩ = some (.slice Xd x.doors.length Xd_) ∧ wy.cell? ⟨w.heap.size, 4, none⟩ = some (.slice Xr x.routes.length Xr_) ∧ wy.cell? ⟨w.heap.size, 5, none⟩ = some (.slice Xt x.trips.length Xt_) ∧ wy.cell? ⟨w.heap.size, 6, none⟩ = some (.slice Xh x.hazs.length Xh_) from ⟨(h.cell (p := ⟨w.heap.size, 0, none⟩) (by show w.heap.size < _; omega)).trans (Lib.cell_of_heap hA 0), (h.cell (p := ⟨w.heap.size, 1, none⟩) (by show w.heap.size < _; omega)).trans (Lib.cell_of_heap hA 1), (h.cell (p := ⟨w.heap.size, 2, none⟩) (by show w.heap.size < _; omega)).trans (Lib.cell_of_heap hA 2), (h.cell (p := ⟨w.heap.size, 3, none⟩) (by show w.heap.size < _; omega)).trans (Lib.cell_of_heap hA 3), (h.cell (p := ⟨w.heap.size, 4, none⟩) (by show w.heap.size < _; omega)).trans (Lib.cell_of_heap hA 4), (h.cell (p := ⟨w.heap.size, 5, none⟩) (by show w.heap.size < _; omega)).trans (Lib.cell_of_heap hA 5), (h.cell (p := ⟨w.heap.size, 6, none⟩) (by show w.heap.size < _; omega)).trans (Lib.cell_of_heap hA 6)⟩))
  have HGx2 := Lib.hid (HGx.out.below_ hba)
  clear HGx
  have HGx := Lib.hid HGx2.out
  clear HGx2
  have HBw1 := Lib.hid hba
  try rw [hwa]
  clear hwa hba hza hA
  go_wp2_with fail
  refine (lives_any w1 (HT.out.below HBw1.out) (HL.out.below HBw1.out)).mono ?_
  rintro e w2 ⟨rfl, hb⟩
  have N2 := Lib.hid hb
  clear hb
  obtain ⟨x0, x1, x2, x3, x4, x5, x6⟩ := Cx.out w2 N2.out
  have hli := HVx.out ▸ light_any w2 x (HGx.out.below_ N2.out)
  have HLI := Lib.hid hli
  clear hli
  go_wp2_with fail
  refine HLI.out.mono ?_
  rintro e w3 ⟨rfl, hb⟩
  have N3 := Lib.hid (N2.out.trans (hb.mono N2.out.size))
  clear hb HLI x0 x1 x2 x3 x4 x5 x6
  rcases hl : lightD x.d 60
  · go_wp2_with fail
    go_ret
    exact ⟨rfl, HBw1.out.trans (N3.out.mono HBw1.out.size)⟩
  have HLT := Lib.hid hl
  clear hl
  obtain ⟨x0, x1, x2, x3, x4, x5, x6⟩ := Cx.out w3 N3.out
  have hck := HVx.out ▸ zcheck_any w3 x (HGx.out.below_ N3.out) (light_few HLT.out) (light_long HLT.out) HM.out
  have HCK := Lib.hid hck
  clear hck
  go_wp2_with fail
  refine HCK.out.mono ?_
  rintro e w4 ⟨rfl, hb⟩
  have N4 := Lib.hid (N3.out.trans (hb.mono N3.out.size))
  clear hb HCK x0 x1 x2 x3 x4 x5 x6
  by_cases hc : checkD x.d = 0
  rotate_left 1
  · have q0 : (checkD x.d == 0) = false := beq_eq_false_iff_ne.2 hc
    have q1 : (checkD x.d != 0) = true := by rw [bne, q0]; rfl
    clear hc
    go_wp2_with fail
    go_ret
    exact ⟨rfl, HBw1.out.trans (N4.out.mono HBw1.out.size)⟩
  have HC0 := Lib.hid hc
  rw [hc]
  clear hc
  have HTH := Lib.hid (fun (wy : World) (h : Below w1.heap.size w1 wy) => HVx.out ▸ sthings_any wy x (HGx.out.below_ h) (light_few HLT.out))
  have HDL := Lib.hid (lines_len x.d)
  obtain ⟨t, ht⟩ : ∃ t, thingsD x.d = t := ⟨_, rfl⟩
  rw [ht] at HTH HDL
  have HTD := Lib.hid ht
  clear ht
  have ht6 : t ≤ 6200 := by have h1 := linesD_len x (light_few HLT.out); have := HDL.out; omega
  obtain ⟨x0, x1, x2, x3, x4, x5, x6⟩ := Cx.out w4 N4.out
  have hkl := HVx.out ▸ klines_any w4 x (HGx.out.below_ N4.out) (light_few HLT.out) HC0.out
  have HKL := Lib.hid hkl
  clear hkl
  go_wp2_with fail
  refine HKL.out.mono ?_
  rintro e w6 ⟨v, rfl, ho, hb⟩
  have N6 := Lib.hid (N4.out.trans (hb.mono N4.out.size))
  have hs : Sl nc 1 w6 v (linesD x.d) (fun _ => True) := (ho.sl nc_len).mono fun _ _ => trivial
  clear hb ho HKL x0 x1 x2 x3 x4 x5 x6
  obtain ⟨b1, o1, Lc, rfl, hc1, hc2, hlb, _, hlx⟩ := hs.form (by have := HDL.out; omega)
  have HLX := Lib.hid (show b1 < w6.heap.size ∧ ∀ (k : Nat) (h : k < (linesD x.d).length), w6.cell? ⟨b1, o1 + k, none⟩ = some (.string (ba (linesD x.d)[k])) from ⟨hlb, fun k h => by simpa using hlx k _ (List.getElem?_eq_getElem h) 0 _ rfl⟩)
  rw [HDL.out] at hs hc1 ⊢
  have HSL := Lib.hid hs
  clear hs hlb hlx
  obtain ⟨x0, x1, x2, x3, x4, x5, x6⟩ := Cx.out w6 N6.out
  have q1 : (((t + 1 : Nat) : Int) != (t : Int) + 1) = false := by simp
  have q2 : (((t : Nat) : Int) + 1 != (t : Int) + 1) = false := by simp
  go_wp2_with fail
  refine (HTH.out w6 N6.out).mono ?_
  rintro e w7 ⟨rfl, hb⟩
  have N7 := Lib.hid (N6.out.trans (hb.mono N6.out.size))
  have M7 := Lib.hid hb
  clear hb x0 x1 x2 x3 x4 x5 x6
  have hpk := fun W => pick_any at_ ((t : Int) + 1) W (by omega) (by omega)
  obtain ⟨hp1, hp2⟩ := pick_lt at_ ((t : Int) + 1) (by omega)
  obtain ⟨j, hn⟩ : ∃ j : Nat, at_ % ((t : Int) + 1) = j := ⟨(at_ % ((t : Int) + 1)).toNat, by omega⟩
  rw [hn] at hpk hp2
  have hjt : j < t + 1 := by omega
  have HPK := Lib.hid hpk
  clear hpk hn hp1 hp2
  go_wp2_with fail
  refine (HPK.out w7).mono ?_
  rintro e w' ⟨rfl, rfl⟩
  clear HPK q1 q2
  have HLE := Lib.hid (linesD_le x HC0.out)
  have HTW := Lib.hid (fun (D : Nms) (hD : linesD x.d = D) => two_back HC0.out D hD)
  obtain ⟨D, hD⟩ : ∃ D, linesD x.d = D := ⟨_, rfl⟩
  have HDD := Lib.hid hD
  rw [hD] at HLE HDL HLX HSL
  clear hD HTH
  have HTS := Lib.hid (fun k => tx_small D HLE.out (by have := HDL.out; omega) k)
  have HOS := Lib.hid (fun k => od_small D HLE.out (by have := HDL.out; omega) k)
  have HBw7 := Lib.hid (HBw1.out.trans (N7.out.mono HBw1.out.size))
  go_wp2_with fail
  go_loopg [8, 6, 7] (t + 1) (fun gg v8 v6 v7 wr => ∃ k : Nat, k ≤ t + 1 ∧ t + 1 - k ≤ gg ∧ v8 = .int .i64 k ∧ v6 = .string (ba (textL (D.take k))) ∧ v7 = .string (ba (OD (D.take k))) ∧ wr = w7)
  case atStart => exact ⟨0, Nat.zero_le _, Nat.le_refl _, rfl, rfl, rfl, rfl⟩
  case round =>
    obtain ⟨k, hk, hgg, rfl, rfl, rfl, rfl⟩ := hrel
    by_cases hlt : k < t + 1
    · have hkd : k < D.length := by have := HDL.out; omega
      have hx0 := (M7.out.cell (p := ⟨b1, o1 + k, none⟩) HLX.out.1).trans (HLX.out.2 k hkd)
      have q1 : (0 : Int) ≤ (k : Int) := by omega
      have q2 : (k : Int) < (t : Int) + 1 := by omega
      have q3 : (k : Int) < ((t + 1 : Nat) : Int) := by omega
      have HE := Lib.hid (take_succ_eq D k hkd)
      have zy : (ba D[k]).size ≤ 4000 := by rw [ba_size]; exact HLE.out _ (List.getElem_mem _)
      have z1 := HTS.out k
      have u1 := HOS.out k
      obtain ⟨y, hy⟩ : ∃ y, D[k] = y := ⟨_, rfl⟩
      rw [hy] at hx0 zy HE
      have HT2 := Lib.hid (text_snoc (D.take k) y)
      have HO2 := Lib.hid (od_snoc (D.take k) y)
      generalize D.take k = A at *
      have z2 : (ba (textL A) ++ ba y).size ≤ 24814201 := by rw [ByteArray.size_append]; exact Nat.add_le_add z1 zy
      have z3 : (ba (textL A) ++ ba y ++ ⟨#[10]⟩).size ≤ 24814202 := by rw [ByteArray.size_append]; exact Nat.add_le_add z2 (Nat.le_refl _)
      have u2 : (ba (OD A) ++ ⟨#[9]⟩).size ≤ 24884614 := by rw [ByteArray.size_append]; exact Nat.add_le_add u1 (Nat.le_refl _)
      have u3 : (ba (OD A) ++ ⟨#[9]⟩ ++ ba y).size ≤ 24888614 := by rw [ByteArray.size_append]; exact Nat.add_le_add u2 zy
      have u4 : (ba (OD A) ++ ⟨#[9]⟩ ++ ba y ++ ⟨#[32, 32, 35, 32, 114, 101, 109, 97, 114, 107, 10, 10]⟩).size ≤ 24888626 := by rw [ByteArray.size_append]; exact Nat.add_le_add u3 (Nat.le_refl _)
      clear hy
      go_wp2_with fail
      go_roundg (t + 1 - (k + 1))
      case measure => omega
      case rel => exact ⟨k + 1, by omega, Nat.le_refl _, by go_num, by rw [HE.out, ← HT2.out], by rw [HE.out, ← HO2.out], rfl⟩
    · have hke : k = t + 1 := by omega
      subst hke
      have HE := Lib.hid (show D.take (t + 1) = D from List.take_of_length_le (by have := HDL.out; omega))
      rw [HE.out]
      have z9 := HTS.out (t + 1)
      have u9 := HOS.out (t + 1)
      rw [HE.out] at z9 u9
      have HOB := Lib.hid (show (ba (textL D)).size ≤ (ba (OD D)).size by rw [ba_size, ba_size]; exact od_big D)
      clear HE HTS HOS hgg hk hlt
      obtain ⟨S1, hS1⟩ : ∃ S, ba (textL D) = S := ⟨_, rfl⟩
      obtain ⟨S2, hS2⟩ : ∃ S, ba (OD D) = S := ⟨_, rfl⟩
      have HS1 := Lib.hid hS1
      have HS2 := Lib.hid hS2
      rw [hS1] at z9 HOB
      rw [hS2] at u9 HOB
      rw [hS1, hS2]
      clear hS1 hS2
      by_cases hbig : 65536 < S2.size
      · have q1 : (65536 : Int) < (S2.size : Int) := by omega
        have q2 : decide ((65536 : Int) < (S2.size : Int)) = true := decide_eq_true q1
        have q3 : decide (65536 < S2.size) = true := decide_eq_true hbig
        clear hbig
        go_wp2_with fail
        go_ret
        exact ⟨rfl, HBw7.out⟩
      have q1 : ¬ (65536 : Int) < (S2.size : Int) := by omega
      have q2 : decide ((65536 : Int) < (S2.size : Int)) = false := decide_eq_false q1
      have q3 : decide (65536 < S2.size) = false := decide_eq_false hbig
      have hp1 := read_back x.d S1 HC0.out (by rw [HDD.out, ← HS1.out]; rfl) (by have := HOB.out; omega)
      have hp2 := odd_back HC0.out S2 (by rw [HDD.out, ← HS2.out]; rfl) (by omega)
      have hpr1 := fun W h1 h2 => sparse_any S1 W h1 h2
      have hpr2 := fun W h1 h2 => sparse_any S2 W h1 h2
      rw [hp1] at hpr1
      rw [hp2] at hpr2
      dsimp only [FaultD.v] at hpr1 hpr2
      have HPR1 := Lib.hid hpr1
      have HPR2 := Lib.hid hpr2
      clear hp1 hp2 hpr1 hpr2 HS1 HS2 HOB hbig
      go_wp2_with fail
      refine (HPR1.out wr (HT.out.below HBw7.out) (HL.out.below HBw7.out)).mono ?_
      clear HPR1
      rintro e w8 ⟨y, hyd, rfl, hgy, hb⟩
      have HBw8 := Lib.hid (HBw7.out.trans (hb.mono HBw7.out.size))
      have HNw8 := Lib.hid hb
      have HYD := Lib.hid hyd
      clear hb hyd
      obtain ⟨Ys, Ys_, Yp, Yp_, Yd, Yd_, Yr, Yr_, Yt, Yt_, Yh, Yh_, eys, eyp, eyd, eyr, eyt, eyh⟩ := SheetAt.forms hgy
      have Vy : y.v = .agg #[.int .i64 y.hor, .slice Ys y.stops.length Ys_, .slice Yp y.paths.length Yp_, .slice Yd y.doors.length Yd_, .slice Yr y.routes.length Yr_, .slice Yt y.trips.length Yt_, .slice Yh y.hazs.length Yh_] := by
        unfold SheetM.v; rw [eys, eyp, eyd, eyr, eyt, eyh]
      rw [Vy]
      have HVy := Lib.hid Vy
      have HGy := Lib.hid hgy
      have HFy := Lib.hid (show y.vs = .slice Ys y.stops.length Ys_ ∧ y.vp = .slice Yp y.paths.length Yp_ ∧ y.vd = .slice Yd y.doors.length Yd_ ∧ y.vr = .slice Yr y.routes.length Yr_ ∧ y.vt = .slice Yt y.trips.length Yt_ ∧ y.vh = .slice Yh y.hazs.length Yh_ from ⟨eys, eyp, eyd, eyr, eyt, eyh⟩)
      clear Vy hgy eys eyp eyd eyr eyt eyh
      go_upto_region 18 with fail
      obtain ⟨w9, hwa⟩ : ∃ wa, (w8.alloc (.cells #[.int .i64 y.hor, .slice Ys y.stops.length Ys_, .slice Yp y.paths.length Yp_, .slice Yd y.doors.length Yd_, .slice Yr y.routes.length Yr_, .slice Yt y.trips.length Yt_, .slice Yh y.hazs.length Yh_] 29)).alloc (.cells #[.int .i64 0, .int .i64 0, .int .i64 0] 39) = wa := ⟨_, rfl⟩
      have hba : Below w8.heap.size w8 w9 := by rw [← hwa]; exact ((Below.refl _ _).alloc (Nat.le_refl _) _).alloc (by simp) _
      have hza : w9.heap.size = w8.heap.size + 2 := by rw [← hwa]; simp
      have hA : w9.heap[w8.heap.size]? = some (.cells #[.int .i64 y.hor, .slice Ys y.stops.length Ys_, .slice Yp y.paths.length Yp_, .slice Yd y.doors.length Yd_, .slice Yr y.routes.length Yr_, .slice Yt y.trips.length Yt_, .slice Yh y.hazs.length Yh_] 29 (0, 0)) := by rw [← hwa, Below.heap_alloc _ _ _ (by simp)]; exact heap_alloc_new _ _
      have hB : w9.heap[w8.heap.size + 1]? = some (.cells #[.int .i64 0, .int .i64 0, .int .i64 0] 39 (0, 0)) := by
        rw [← hwa]
        have h := heap_alloc_new (w8.alloc (.cells #[.int .i64 y.hor, .slice Ys y.stops.length Ys_, .slice Yp y.paths.length Yp_, .slice Yd y.doors.length Yd_, .slice Yr y.routes.length Yr_, .slice Yt y.trips.length Yt_, .slice Yh y.hazs.length Yh_] 29)) (.cells #[.int .i64 0, .int .i64 0, .int .i64 0] 39)
        rw [show (w8.alloc (.cells #[.int .i64 y.hor, .slice Ys y.stops.length Ys_, .slice Yp y.paths.length Yp_, .slice Yd y.doors.length Yd_, .slice Yr y.routes.length Yr_, .slice Yt y.trips.length Yt_, .slice Yh y.hazs.length Yh_] 29)).heap.size = w8.heap.size + 1 by simp] at h
        exact h
      have Cy := Lib.hid (fun (wy : World) (h : Below w9.heap.size w9 wy) => (show wy.cell? ⟨w8.heap.size, 0, none⟩ = some (.int .i64 y.hor) ∧ wy.cell? ⟨w8.heap.size, 1, none⟩ = some (.slice Ys y.stops.length Ys_) ∧ wy.cell? ⟨w8.heap.size, 2, none⟩ = some (.slice Yp y.paths.length Yp_) ∧ wy.cell? ⟨w8.heap.size, 3, none⟩ = some (.slice Yd y.doors.length Yd_) ∧ wy.cell? ⟨w8.heap.size, 4, none⟩ = some (.slice Yr y.routes.length Yr_) ∧ wy.cell? ⟨w8.heap.size, 5, none⟩ = some (.slice Yt y.trips.length Yt_) ∧ wy.cell? ⟨w8.heap.size, 6, none⟩ = some (.slice Yh y.hazs.length Yh_) from ⟨(h.cell (p := ⟨w8.heap.size, 0, none⟩) (by show w8.heap.size < _; omega)).trans (Lib.cell_of_heap hA 0), (h.cell (p := ⟨w8.heap.size, 1, none⟩) (by show w8.heap.size < _; omega)).trans (Lib.cell_of_heap hA 1), (h.cell (p := ⟨w8.heap.size, 2, none⟩) (by show w8.heap.size < _; omega)).trans (Lib.cell_of_heap hA 2), (h.cell (p := ⟨w8.heap.size, 3, none⟩) (by show w8.heap.size < _; omega)).trans (Lib.cell_of_heap hA 3), (h.cell (p := ⟨w8.heap.size, 4, none⟩) (by show w8.heap.size < _; omega)).trans (Lib.cell_of_heap hA 4), (h.cell (p := ⟨w8.heap.size, 5, none⟩) (by show w8.heap.size < _; omega)).trans (Lib.cell_of_heap hA 5), (h.cell (p := ⟨w8.heap.size, 6, none⟩) (by show w8.heap.size < _; omega)).trans (Lib.cell_of_heap hA 6)⟩))
      have Fy := Lib.hid (fun (wy : World) (h : Below w9.heap.size w9 wy) => (show wy.cell? ⟨w8.heap.size + 1, 0, none⟩ = some (.int .i64 0) ∧ wy.cell? ⟨w8.heap.size + 1, 1, none⟩ = some (.int .i64 0) ∧ wy.cell? ⟨w8.heap.size + 1, 2, none⟩ = some (.int .i64 0) from ⟨(h.cell (p := ⟨w8.heap.size + 1, 0, none⟩) (by show w8.heap.size + 1 < _; omega)).trans (Lib.cell_of_heap hB 0), (h.cell (p := ⟨w8.heap.size + 1, 1, none⟩) (by show w8.heap.size + 1 < _; omega)).trans (Lib.cell_of_heap hB 1), (h.cell (p := ⟨w8.heap.size + 1, 2, none⟩) (by show w8.heap.size + 1 < _; omega)).trans (Lib.cell_of_heap hB 2)⟩))
      have HBw9 := Lib.hid (HBw8.out.trans (hba.mono HBw8.out.size))
      have HGy2 := Lib.hid (HGy.out.below_ hba)
      clear HGy
      have HGy := Lib.hid HGy2.out
      clear HGy2
      have HNw9 := Lib.hid hba
      try rw [hwa]
      clear hwa hba hza hA hB
      go_wp2_with fail
      refine (HPR2.out w9 (HT.out.below HBw9.out) (HL.out.below HBw9.out)).mono ?_
      clear HPR2
      rintro e w10 ⟨z, hzd, rfl, hgz, hb⟩
      have HBw10 := Lib.hid (HBw9.out.trans (hb.mono HBw9.out.size))
      have HNw10 := Lib.hid hb
      have HZD := Lib.hid hzd
      clear hb hzd
      obtain ⟨Zs, Zs_, Zp, Zp_, Zd, Zd_, Zr, Zr_, Zt, Zt_, Zh, Zh_, ezs, ezp, ezd, ezr, ezt, ezh⟩ := SheetAt.forms hgz
      have Vz : z.v = .agg #[.int .i64 z.hor, .slice Zs z.stops.length Zs_, .slice Zp z.paths.length Zp_, .slice Zd z.doors.length Zd_, .slice Zr z.routes.length Zr_, .slice Zt z.trips.length Zt_, .slice Zh z.hazs.length Zh_] := by
        unfold SheetM.v; rw [ezs, ezp, ezd, ezr, ezt, ezh]
      rw [Vz]
      have HVz := Lib.hid Vz
      have HGz := Lib.hid hgz
      have HFz := Lib.hid (show z.vs = .slice Zs z.stops.length Zs_ ∧ z.vp = .slice Zp z.paths.length Zp_ ∧ z.vd = .slice Zd z.doors.length Zd_ ∧ z.vr = .slice Zr z.routes.length Zr_ ∧ z.vt = .slice Zt z.trips.length Zt_ ∧ z.vh = .slice Zh z.hazs.length Zh_ from ⟨ezs, ezp, ezd, ezr, ezt, ezh⟩)
      clear Vz hgz ezs ezp ezd ezr ezt ezh
      go_upto_region 19 with fail
      obtain ⟨w11, hwa⟩ : ∃ wa, (w10.alloc (.cells #[.int .i64 z.hor, .slice Zs z.stops.length Zs_, .slice Zp z.paths.length Zp_, .slice Zd z.doors.length Zd_, .slice Zr z.routes.length Zr_, .slice Zt z.trips.length Zt_, .slice Zh z.hazs.length Zh_] 29)).alloc (.cells #[.int .i64 0, .int .i64 0, .int .i64 0] 39) = wa := ⟨_, rfl⟩
      have hba : Below w10.heap.size w10 w11 := by rw [← hwa]; exact ((Below.refl _ _).alloc (Nat.le_refl _) _).alloc (by simp) _
      have hza : w11.heap.size = w10.heap.size + 2 := by rw [← hwa]; simp
      have hA : w11.heap[w10.heap.size]? = some (.cells #[.int .i64 z.hor, .slice Zs z.stops.length Zs_, .slice Zp z.paths.length Zp_, .slice Zd z.doors.length Zd_, .slice Zr z.routes.length Zr_, .slice Zt z.trips.length Zt_, .slice Zh z.hazs.length Zh_] 29 (0, 0)) := by rw [← hwa, Below.heap_alloc _ _ _ (by simp)]; exact heap_alloc_new _ _
      have hB : w11.heap[w10.heap.size + 1]? = some (.cells #[.int .i64 0, .int .i64 0, .int .i64 0] 39 (0, 0)) := by
        rw [← hwa]
        have h := heap_alloc_new (w10.alloc (.cells #[.int .i64 z.hor, .slice Zs z.stops.length Zs_, .slice Zp z.paths.length Zp_, .slice Zd z.doors.length Zd_, .slice Zr z.routes.length Zr_, .slice Zt z.trips.length Zt_, .slice Zh z.hazs.length Zh_] 29)) (.cells #[.int .i64 0, .int .i64 0, .int .i64 0] 39)
        rw [show (w10.alloc (.cells #[.int .i64 z.hor, .slice Zs z.stops.length Zs_, .slice Zp z.paths.length Zp_, .slice Zd z.doors.length Zd_, .slice Zr z.routes.length Zr_, .slice Zt z.trips.length Zt_, .slice Zh z.hazs.length Zh_] 29)).heap.size = w10.heap.size + 1 by simp] at h
        exact h
      have Cz := Lib.hid (fun (wy : World) (h : Below w11.heap.size w11 wy) => (show wy.cell? ⟨w10.heap.size, 0, none⟩ = some (.int .i64 z.hor) ∧ wy.cell? ⟨w10.heap.size, 1, none⟩ = some (.slice Zs z.stops.length Zs_) ∧ wy.cell? ⟨w10.heap.size, 2, none⟩ = some (.slice Zp z.paths.length Zp_) ∧ wy.cell? ⟨w10.heap.size, 3, none⟩ = some (.slice Zd z.doors.length Zd_) ∧ wy.cell? ⟨w10.heap.size, 4, none⟩ = some (.slice Zr z.routes.length Zr_) ∧ wy.cell? ⟨w10.heap.size, 5, none⟩ = some (.slice Zt z.trips.length Zt_) ∧ wy.cell? ⟨w10.heap.size, 6, none⟩ = some (.slice Zh z.hazs.length Zh_) from ⟨(h.cell (p := ⟨w10.heap.size, 0, none⟩) (by show w10.heap.size < _; omega)).trans (Lib.cell_of_heap hA 0), (h.cell (p := ⟨w10.heap.size, 1, none⟩) (by show w10.heap.size < _; omega)).trans (Lib.cell_of_heap hA 1), (h.cell (p := ⟨w10.heap.size, 2, none⟩) (by show w10.heap.size < _; omega)).trans (Lib.cell_of_heap hA 2), (h.cell (p := ⟨w10.heap.size, 3, none⟩) (by show w10.heap.size < _; omega)).trans (Lib.cell_of_heap hA 3), (h.cell (p := ⟨w10.heap.size, 4, none⟩) (by show w10.heap.size < _; omega)).trans (Lib.cell_of_heap hA 4), (h.cell (p := ⟨w10.heap.size, 5, none⟩) (by show w10.heap.size < _; omega)).trans (Lib.cell_of_heap hA 5), (h.cell (p := ⟨w10.heap.size, 6, none⟩) (by show w10.heap.size < _; omega)).trans (Lib.cell_of_heap hA 6)⟩))
      have Fz := Lib.hid (fun (wy : World) (h : Below w11.heap.size w11 wy) => (show wy.cell? ⟨w10.heap.size + 1, 0, none⟩ = some (.int .i64 0) ∧ wy.cell? ⟨w10.heap.size + 1, 1, none⟩ = some (.int .i64 0) ∧ wy.cell? ⟨w10.heap.size + 1, 2, none⟩ = some (.int .i64 0) from ⟨(h.cell (p := ⟨w10.heap.size + 1, 0, none⟩) (by show w10.heap.size + 1 < _; omega)).trans (Lib.cell_of_heap hB 0), (h.cell (p := ⟨w10.heap.size + 1, 1, none⟩) (by show w10.heap.size + 1 < _; omega)).trans (Lib.cell_of_heap hB 1), (h.cell (p := ⟨w10.heap.size + 1, 2, none⟩) (by show w10.heap.size + 1 < _; omega)).trans (Lib.cell_of_heap hB 2)⟩))
      have HBw11 := Lib.hid (HBw10.out.trans (hba.mono HBw10.out.size))
      have HGz2 := Lib.hid (HGz.out.below_ hba)
      clear HGz
      have HGz := Lib.hid HGz2.out
      clear HGz2
      have HNw11 := Lib.hid hba
      try rw [hwa]
      clear hwa hba hza hA hB
      have N119 := Lib.hid (HNw10.out.trans (HNw11.out.mono HNw10.out.size))
      have N117 := Lib.hid (HNw8.out.trans ((HNw9.out.trans (N119.out.mono HNw9.out.size)).mono HNw8.out.size))
      have N11 := Lib.hid (N7.out.trans (N117.out.mono N7.out.size))
      have M11 := Lib.hid (M7.out.trans (N117.out.mono M7.out.size))
      obtain ⟨fy0, fy1, fy2⟩ := Fy.out w11 N119.out
      obtain ⟨fz0, fz1, fz2⟩ := Fz.out w11 (Below.refl _ _)
      obtain ⟨y0, y1, y2, y3, y4, y5, y6⟩ := Cy.out w11 N119.out
      obtain ⟨x0, x1, x2, x3, x4, x5, x6⟩ := Cx.out w11 N11.out
      have h1 := sameSh_any y x w11 (HGy.out.below_ N119.out) (HGx.out.below_ N11.out) (may_small (show checkD y.d = 0 by rw [HYD.out]; exact HC0.out))
      rw [decide_eq_true HYD.out, HVx.out, HVy.out] at h1
      have HK1 := Lib.hid h1
      have q7 := nqb
      clear h1
      go_wp2_with fail
      refine HK1.out.mono ?_
      rintro e w12 ⟨rfl, hb⟩
      have K12 := Lib.hid hb
      clear hb HK1 fy0 fy1 fy2 fz0 fz1 fz2 y0 y1 y2 y3 y4 y5 y6 x0 x1 x2 x3 x4 x5 x6
      have N12 := Lib.hid (N11.out.trans (K12.out.mono N11.out.size))
      obtain ⟨y0, y1, y2, y3, y4, y5, y6⟩ := Cz.out w12 K12.out
      obtain ⟨x0, x1, x2, x3, x4, x5, x6⟩ := Cx.out w12 N12.out
      have h1 := ssame_any z x w12 (HGz.out.below_ K12.out) (HGx.out.below_ N12.out) (may_small (show checkD z.d = 0 by rw [HZD.out]; exact HC0.out))
      rw [decide_eq_true HZD.out, HVx.out, HVz.out] at h1
      have HK1 := Lib.hid h1
      clear h1
      go_wp2_with fail
      refine HK1.out.mono ?_
      rintro e w13 ⟨rfl, hb⟩
      have M13 := Lib.hid (M11.out.trans ((K12.out.trans (hb.mono K12.out.size)).mono M11.out.size))
      have HBw13 := Lib.hid (HBw1.out.trans ((N12.out.trans (hb.mono N12.out.size)).mono HBw1.out.size))
      clear hb HK1 y0 y1 y2 y3 y4 y5 y6 x0 x1 x2 x3 x4 x5 x6
      have hj0 : 0 < D.length := by have := HDL.out; omega
      have hjd : j < D.length := by have := HDL.out; omega
      have htw := HTW.out D HDD.out j hjd
      have HC := Lib.hid (fun (wy : World) (hy : Below w13.heap.size w13 wy) => (show wy.cell? ⟨b1, o1, none⟩ = some (.string (ba D[0])) ∧ wy.cell? ⟨b1, o1 + j, none⟩ = some (.string (ba D[j])) from
        ⟨((M13.out.trans (hy.mono M13.out.size)).cell (p := ⟨b1, o1, none⟩) HLX.out.1).trans (by simpa using HLX.out.2 0 hj0), ((M13.out.trans (hy.mono M13.out.size)).cell (p := ⟨b1, o1 + j, none⟩) HLX.out.1).trans (HLX.out.2 j hjd)⟩))
      have zl : (ba D[0]).size ≤ 4000 := by rw [ba_size]; exact HLE.out _ (List.getElem_mem _)
      have zj : (ba D[j]).size ≤ 4000 := by rw [ba_size]; exact HLE.out _ (List.getElem_mem _)
      have z1 : (ba D[0] ++ ⟨#[10]⟩).size ≤ 4001 := by rw [ByteArray.size_append]; exact Nat.add_le_add zl (Nat.le_refl _)
      have z2 : (ba D[0] ++ ⟨#[10]⟩ ++ ba D[j]).size ≤ 8001 := by rw [ByteArray.size_append]; exact Nat.add_le_add z1 zj
      obtain ⟨U, hU⟩ : ∃ U, ba D[0] ++ ⟨#[10]⟩ ++ ba D[j] = U := ⟨_, rfl⟩
      have HU := Lib.hid hU
      have htw2 := htw U hU.symm (by rw [← hU]; omega)
      obtain ⟨⟨PD, fx, g2, g3⟩, hPD⟩ : ∃ r, parseS U = r := ⟨_, rfl⟩
      rw [hPD] at htw2
      have hpr := fun W h1 h2 => sparse_any U W h1 h2
      rw [hPD] at hpr
      dsimp only [FaultD.v] at hpr
      have HPR := Lib.hid hpr
      have HTW2 := Lib.hid htw2
      clear hpr hPD htw htw2 hU HTW
      generalize D[0] = d0 at *
      generalize D[j] = dj at *
      have r1 : (0 : Int) < (t : Int) + 1 := by omega
      have r2 : 0 < t + 1 := by omega
      have r3 : (0 : Int) ≤ (j : Int) := by omega
      have r4 : (j : Int) < (t : Int) + 1 := by omega
      go_upto_region 21 with fail
      go_cut [13, 14] (fun v13 v14 wx => ∃ (q : SheetM) (pa pb : Nat), v13 = .pointer (some ⟨pa, 0, none⟩) ∧ v14 = .pointer (some ⟨pb, 0, none⟩) ∧ Below w13.heap.size w13 wx ∧ q.d = PD ∧ q.Good wx (fun _ => True) ∧ wx.heap[pa]? = some (.cells #[.int .i64 q.hor, q.vs, q.vp, q.vd, q.vr, q.vt, q.vh] 29 (0, 0)) ∧ wx.heap[pb]? = some (.cells #[.int .i64 fx, .int .i64 g2, .int .i64 g3] 39 (0, 0)))
      case first =>
        have hSw : Below w13.heap.size w13 w13 := Below.refl _ _
        refine wp_region_goon (fun wy => Below w13.heap.size w13 wy) [9, 13, 14, 15, 16] [] [2, 7] [0, 1, 3, 4, 5, 6, 8, 10, 11, 12] (by kernel_rfl) ?_
        refine goon_walk [0, 1, 2, 3, 4, 5, 6, 7, 8] 8 rfl (by kernel_rfl) (by kernel_rfl) (fun w n h => below_drewN h n) ?_
        repeat (first | (refine wpKind_free (v := ?_) (by rfl) rfl (by rfl) ?_ ?_; rotate_left 1; (focus (intro wy; go_simp; rw [if_neg (by omega)]; done)); try simp only [Act.put, List.setIfInBounds_toArray, List.set_cons_zero, List.set_cons_succ]) | (refine wpKind_free (v := ?_) (by rfl) rfl (by rfl) ?_ ?_; rotate_left 1; (focus (intro wy; go_simp; try with_reducible rfl; done)); try simp only [Act.put, List.setIfInBounds_toArray, List.set_cons_zero, List.set_cons_succ]) | (refine wpKind_held (v := ?_) (by rfl) rfl (by rfl) hSw ?_ ?_; rotate_left 1; (focus (intro wy hSy; obtain ⟨s0, s1⟩ := HC.out wy hSy; go_simp; try with_reducible rfl; done)); try simp only [Act.put, List.setIfInBounds_toArray, List.set_cons_zero, List.set_cons_succ]))
        refine wpKind_fin ?_
        clear hSw
        have HB0 := Lib.hid (Below.refl w13.heap.size w13)
        refine goon_all [9, 13, 14] (by kernel_rfl) (by decide) (fun i hi => ?_)
        simp only [List.mem_cons, List.not_mem_nil, or_false] at hi
        rcases hi with rfl | rfl | rfl
        · skip
          refine hOp_keeps (by rfl) rfl (fun m1 => ?_)
          go_wp2_with fail
          have hw1 : Below w.heap.size w (w13.drewN m1) := below_drewN (HBw13.out.trans (HB0.out.mono HBw13.out.size)) m1
          try rw [HU.out]
          refine (HPR.out (w13.drewN m1) (HT.out.below hw1) (HL.out.below hw1)).mono ?_
          clear hw1
          rintro e y1 ⟨q, hqd, rfl, hgq, hb⟩
          have HN1 := Lib.hid (show Below w13.heap.size w13 y1 from (below_drewN (Below.refl _ _) m1).trans hb)
          have HQD := Lib.hid hqd
          have hgq2 := hgq.mono (Q := fun b => True ∧ True) fun b hb => ⟨trivial, trivial⟩
          clear hb hqd hgq
          obtain ⟨Qs, Qs_, Qp, Qp_, Qd, Qd_, Qr, Qr_, Qt, Qt_, Qh, Qh_, eqs, eqp, eqd, eqr, eqt, eqh⟩ := SheetAt.forms hgq2
          have Vq : q.v = .agg #[.int .i64 q.hor, .slice Qs q.stops.length Qs_, .slice Qp q.paths.length Qp_, .slice Qd q.doors.length Qd_, .slice Qr q.routes.length Qr_, .slice Qt q.trips.length Qt_, .slice Qh q.hazs.length Qh_] := by
            unfold SheetM.v; rw [eqs, eqp, eqd, eqr, eqt, eqh]
          rw [Vq]
          have HVq := Lib.hid Vq
          have HGq := Lib.hid hgq2
          have HFq := Lib.hid (show q.vs = .slice Qs q.stops.length Qs_ ∧ q.vp = .slice Qp q.paths.length Qp_ ∧ q.vd = .slice Qd q.doors.length Qd_ ∧ q.vr = .slice Qr q.routes.length Qr_ ∧ q.vt = .slice Qt q.trips.length Qt_ ∧ q.vh = .slice Qh q.hazs.length Qh_ from ⟨eqs, eqp, eqd, eqr, eqt, eqh⟩)
          clear Vq hgq2 eqs eqp eqd eqr eqt eqh
          have HG1 := HGq
          have HB1 := Lib.hid (HB0.out.trans (HN1.out.mono HB0.out.size))
          go_wp2_with fail
          show _ ∧ _
          refine ⟨HB1.out, ?_⟩
          refine goon_walk [10, 11, 12] 4 rfl (by kernel_rfl) (by kernel_rfl) (fun w n h => below_drewN h n) ?_
          repeat (first | (refine wpKind_free (v := ?_) (by rfl) rfl (by rfl) ?_ ?_; rotate_left 1; (focus (intro wy; go_simp; try with_reducible rfl; done)); try simp only [Act.put, List.setIfInBounds_toArray, List.set_cons_zero, List.set_cons_succ]))
          refine wpKind_fin ?_
          refine goon_all [13, 14] (by kernel_rfl) (by decide) (fun i hi => ?_)
          simp only [List.mem_cons, List.not_mem_nil, or_false] at hi
          rcases hi with rfl | rfl
          · skip
            refine hOp_keeps (by rfl) rfl (fun m2 => ?_)
            go_wp2_with fail
            generalize hw2 : World.alloc _ (.cells #[.int .i64 0, .slice none 0 0, .slice none 0 0, .slice none 0 0, .slice none 0 0, .slice none 0 0, .slice none 0 0] 29) = y2
            have HN2 := Lib.hid (show Below y1.heap.size y1 y2 by rw [← hw2]; exact (below_drewN (Below.refl _ _) _).alloc (Nat.le_refl _) _)
            have HH2 := Lib.hid (show y2.heap[y1.heap.size]? = some (.cells #[.int .i64 0, .slice none 0 0, .slice none 0 0, .slice none 0 0, .slice none 0 0, .slice none 0 0, .slice none 0 0] 29 (0, 0)) by rw [← hw2]; exact heap_alloc_new _ _)
            have HS2 := Lib.hid (show y1.heap.size < y2.heap.size by rw [← hw2]; simp)
            clear hw2
            have HB2 := Lib.hid (HB1.out.trans (HN2.out.mono HB1.out.size))
            have HG2 := Lib.hid ((HG1.out.lt_.below_ HN2.out).mono (Q := fun b => b ≠ y1.heap.size ∧ True) fun b hb => ⟨Nat.ne_of_lt hb.2, hb.1.2⟩)
            have HA2 := HH2
            have HPA2 := Lib.hid (show w13.heap.size ≤ y1.heap.size from HB1.out.size)
            show _ ∧ _
            refine ⟨HB2.out, ?_⟩
            refine goon_all [14] (by kernel_rfl) (by decide) (fun i hi => ?_)
            simp only [List.mem_cons, List.not_mem_nil, or_false] at hi
            subst hi
            refine hOp_keeps (by rfl) rfl (fun m3 => ?_)
            go_wp2_with fail
            generalize hw3 : World.alloc _ (.cells #[.int .i64 0, .int .i64 0, .int .i64 0] 39) = y3
            have HN3 := Lib.hid (show Below y2.heap.size y2 y3 by rw [← hw3]; exact (below_drewN (Below.refl _ _) _).alloc (Nat.le_refl _) _)
            have HH3 := Lib.hid (show y3.heap[y2.heap.size]? = some (.cells #[.int .i64 0, .int .i64 0, .int .i64 0] 39 (0, 0)) by rw [← hw3]; exact heap_alloc_new _ _)
            have HS3 := Lib.hid (show y2.heap.size < y3.heap.size by rw [← hw3]; simp)
            clear hw3
            have HB3 := Lib.hid (HB2.out.trans (HN3.out.mono HB2.out.size))
            have HG3 := Lib.hid ((HG2.out.lt_.below_ HN3.out).mono (Q := fun b => b ≠ y1.heap.size ∧ b ≠ y2.heap.size) fun b hb => ⟨hb.1.1, Nat.ne_of_lt hb.2⟩)
            have HA3 := Lib.hid ((HN3.out.block y1.heap.size (Array.getElem?_eq_some_iff.1 HA2.out).1).trans HA2.out)
            have HPA3 := HPA2
            have HF3 := HH3
            have HPB3 := Lib.hid (show w13.heap.size ≤ y2.heap.size from HB2.out.size)
            have HNE3 := Lib.hid (show y1.heap.size ≠ y2.heap.size from Nat.ne_of_lt (Array.getElem?_eq_some_iff.1 HA2.out).1)
            show _ ∧ _
            refine ⟨HB3.out, ?_⟩
            refine goon_all [15] (by kernel_rfl) (by decide) (fun i hi => ?_)
            simp only [List.mem_cons, List.not_mem_nil, or_false] at hi
            subst hi
            refine hOp_keeps (by rfl) rfl (fun m4 => ?_)
            have hh4 := HA3.out
            have cc0 : y3.cell? ⟨y1.heap.size, 0, none⟩ = some (.int .i64 0) := Lib.cell_of_heap hh4 0
            have ff0 : y3.frozen? ⟨y1.heap.size, 0, none⟩ = false := Lib.frozen_of_heap hh4 0
            have cc1 : y3.cell? ⟨y1.heap.size, 1, none⟩ = some (.slice none 0 0) := Lib.cell_of_heap hh4 1
            have ff1 : y3.frozen? ⟨y1.heap.size, 1, none⟩ = false := Lib.frozen_of_heap hh4 1
            have cc2 : y3.cell? ⟨y1.heap.size, 2, none⟩ = some (.slice none 0 0) := Lib.cell_of_heap hh4 2
            have ff2 : y3.frozen? ⟨y1.heap.size, 2, none⟩ = false := Lib.frozen_of_heap hh4 2
            have cc3 : y3.cell? ⟨y1.heap.size, 3, none⟩ = some (.slice none 0 0) := Lib.cell_of_heap hh4 3
            have ff3 : y3.frozen? ⟨y1.heap.size, 3, none⟩ = false := Lib.frozen_of_heap hh4 3
            have cc4 : y3.cell? ⟨y1.heap.size, 4, none⟩ = some (.slice none 0 0) := Lib.cell_of_heap hh4 4
            have ff4 : y3.frozen? ⟨y1.heap.size, 4, none⟩ = false := Lib.frozen_of_heap hh4 4
            have cc5 : y3.cell? ⟨y1.heap.size, 5, none⟩ = some (.slice none 0 0) := Lib.cell_of_heap hh4 5
            have ff5 : y3.frozen? ⟨y1.heap.size, 5, none⟩ = false := Lib.frozen_of_heap hh4 5
            have cc6 : y3.cell? ⟨y1.heap.size, 6, none⟩ = some (.slice none 0 0) := Lib.cell_of_heap hh4 6
            have ff6 : y3.frozen? ⟨y1.heap.size, 6, none⟩ = false := Lib.frozen_of_heap hh4 6
            go_wp2_with fail
            clear cc0 ff0 cc1 ff1 cc2 ff2 cc3 ff3 cc4 ff4 cc5 ff5 cc6 ff6
            obtain ⟨y4, hY4, hp4, hk4, hs4, hb4⟩ := store7 (W := y3.drewN m4) (.int .i64 q.hor) (.slice Qs q.stops.length Qs_) (.slice Qp q.paths.length Qp_) (.slice Qd q.doors.length Qd_) (.slice Qr q.routes.length Qr_) (.slice Qt q.trips.length Qt_) (.slice Qh q.hazs.length Qh_) hh4
            rw [hY4]
            clear hY4 hh4
            have HB4 := Lib.hid (hb4 _ _ (HPA3.out) (below_drewN HB3.out m4))
            have HG4 := Lib.hid (HG3.out.keep hs4 fun b _ hP => hk4 b hP.1)
            have HA4 := Lib.hid hp4
            have HAq4 := Lib.hid (show y4.heap[y1.heap.size]? = some (.cells #[.int .i64 q.hor, q.vs, q.vp, q.vd, q.vr, q.vt, q.vh] 29 (0, 0)) by obtain ⟨e1, e2, e3, e4, e5, e6⟩ := HFq.out; rw [e1, e2, e3, e4, e5, e6]; exact hp4)
            have HPA4 := HPA3
            have HF4 := Lib.hid ((hk4 y2.heap.size (HNE3.out.symm)).trans HF3.out)
            have HPB4 := HPB3
            clear hp4 hk4 hs4 hb4
            show _ ∧ _
            refine ⟨HB4.out, ?_⟩
            refine goon_all [16] (by kernel_rfl) (by decide) (fun i hi => ?_)
            simp only [List.mem_cons, List.not_mem_nil, or_false] at hi
            subst hi
            refine hOp_keeps (by rfl) rfl (fun m5 => ?_)
            have hh5 := HF4.out
            have cc0 : y4.cell? ⟨y2.heap.size, 0, none⟩ = some (.int .i64 0) := Lib.cell_of_heap hh5 0
            have ff0 : y4.frozen? ⟨y2.heap.size, 0, none⟩ = false := Lib.frozen_of_heap hh5 0
            have cc1 : y4.cell? ⟨y2.heap.size, 1, none⟩ = some (.int .i64 0) := Lib.cell_of_heap hh5 1
            have ff1 : y4.frozen? ⟨y2.heap.size, 1, none⟩ = false := Lib.frozen_of_heap hh5 1
            have cc2 : y4.cell? ⟨y2.heap.size, 2, none⟩ = some (.int .i64 0) := Lib.cell_of_heap hh5 2
            have ff2 : y4.frozen? ⟨y2.heap.size, 2, none⟩ = false := Lib.frozen_of_heap hh5 2
            go_wp2_with fail
            clear cc0 ff0 cc1 ff1 cc2 ff2
            obtain ⟨y5, hY5, hp5, hk5, hs5, hb5⟩ := store3 (W := y4.drewN m5) (.int .i64 fx) (.int .i64 g2) (.int .i64 g3) hh5
            rw [hY5]
            clear hY5 hh5
            have HB5 := Lib.hid (hb5 _ _ (HPB4.out) (below_drewN HB4.out m5))
            have HG5 := Lib.hid (HG4.out.keep hs5 fun b _ hP => hk5 b hP.2)
            have HF5 := Lib.hid hp5
            have HPB5 := HPB4
            have HA5 := Lib.hid ((hk5 y1.heap.size (HNE3.out)).trans HA4.out)
            have HPA5 := HPA4
            have HAq5 := Lib.hid ((hk5 y1.heap.size (HNE3.out)).trans HAq4.out)
            clear hp5 hk5 hs5 hb5
            show _ ∧ _
            refine ⟨HB5.out, ?_⟩
            refine goon_end (by kernel_rfl) (fun mz => ?_)
            go_wp2_with fail
            go_meet
            case rel => exact ⟨q, y1.heap.size, y2.heap.size, rfl, rfl, below_drewN HB5.out mz, HQD.out, (HG5.out.below_ (below_drewN (Below.refl _ _) mz)).mono fun _ _ => trivial, HAq5.out, HF5.out⟩
          · skip
            refine hOp_keeps (by rfl) rfl (fun m6 => ?_)
            go_wp2_with fail
            generalize hw6 : World.alloc _ (.cells #[.int .i64 0, .int .i64 0, .int .i64 0] 39) = y6
            have HN6 := Lib.hid (show Below y1.heap.size y1 y6 by rw [← hw6]; exact (below_drewN (Below.refl _ _) _).alloc (Nat.le_refl _) _)
            have HH6 := Lib.hid (show y6.heap[y1.heap.size]? = some (.cells #[.int .i64 0, .int .i64 0, .int .i64 0] 39 (0, 0)) by rw [← hw6]; exact heap_alloc_new _ _)
            have HS6 := Lib.hid (show y1.heap.size < y6.heap.size by rw [← hw6]; simp)
            clear hw6
            have HB6 := Lib.hid (HB1.out.trans (HN6.out.mono HB1.out.size))
            have HG6 := Lib.hid ((HG1.out.lt_.below_ HN6.out).mono (Q := fun b => True ∧ b ≠ y1.heap.size) fun b hb => ⟨hb.1.1, Nat.ne_of_lt hb.2⟩)
            have HF6 := HH6
            have HPB6 := Lib.hid (show w13.heap.size ≤ y1.heap.size from HB1.out.size)
            show _ ∧ _
            refine ⟨HB6.out, ?_⟩
            refine goon_all [13] (by kernel_rfl) (by decide) (fun i hi => ?_)
            simp only [List.mem_cons, List.not_mem_nil, or_false] at hi
            subst hi
            refine hOp_keeps (by rfl) rfl (fun m7 => ?_)
            go_wp2_with fail
            generalize hw7 : World.alloc _ (.cells #[.int .i64 0, .slice none 0 0, .slice none 0 0, .slice none 0 0, .slice none 0 0, .slice none 0 0, .slice none 0 0] 29) = y7
            have HN7 := Lib.hid (show Below y6.heap.size y6 y7 by rw [← hw7]; exact (below_drewN (Below.refl _ _) _).alloc (Nat.le_refl _) _)
            have HH7 := Lib.hid (show y7.heap[y6.heap.size]? = some (.cells #[.int .i64 0, .slice none 0 0, .slice none 0 0, .slice none 0 0, .slice none 0 0, .slice none 0 0, .slice none 0 0] 29 (0, 0)) by rw [← hw7]; exact heap_alloc_new _ _)
            have HS7 := Lib.hid (show y6.heap.size < y7.heap.size by rw [← hw7]; simp)
            clear hw7
            have HB7 := Lib.hid (HB6.out.trans (HN7.out.mono HB6.out.size))
            have HG7 := Lib.hid ((HG6.out.lt_.below_ HN7.out).mono (Q := fun b => b ≠ y6.heap.size ∧ b ≠ y1.heap.size) fun b hb => ⟨Nat.ne_of_lt hb.2, hb.1.2⟩)
            have HF7 := Lib.hid ((HN7.out.block y1.heap.size (Array.getElem?_eq_some_iff.1 HF6.out).1).trans HF6.out)
            have HPB7 := HPB6
            have HA7 := HH7
            have HPA7 := Lib.hid (show w13.heap.size ≤ y6.heap.size from HB6.out.size)
            have HNE7 := Lib.hid (show y6.heap.size ≠ y1.heap.size from Nat.ne_of_gt (Array.getElem?_eq_some_iff.1 HF6.out).1)
            show _ ∧ _
            refine ⟨HB7.out, ?_⟩
            refine goon_all [15] (by kernel_rfl) (by decide) (fun i hi => ?_)
            simp only [List.mem_cons, List.not_mem_nil, or_false] at hi
            subst hi
            refine hOp_keeps (by rfl) rfl (fun m8 => ?_)
            have hh8 := HA7.out
            have cc0 : y7.cell? ⟨y6.heap.size, 0, none⟩ = some (.int .i64 0) := Lib.cell_of_heap hh8 0
            have ff0 : y7.frozen? ⟨y6.heap.size, 0, none⟩ = false := Lib.frozen_of_heap hh8 0
            have cc1 : y7.cell? ⟨y6.heap.size, 1, none⟩ = some (.slice none 0 0) := Lib.cell_of_heap hh8 1
            have ff1 : y7.frozen? ⟨y6.heap.size, 1, none⟩ = false := Lib.frozen_of_heap hh8 1
            have cc2 : y7.cell? ⟨y6.heap.size, 2, none⟩ = some (.slice none 0 0) := Lib.cell_of_heap hh8 2
            have ff2 : y7.frozen? ⟨y6.heap.size, 2, none⟩ = false := Lib.frozen_of_heap hh8 2
            have cc3 : y7.cell? ⟨y6.heap.size, 3, none⟩ = some (.slice none 0 0) := Lib.cell_of_heap hh8 3
            have ff3 : y7.frozen? ⟨y6.heap.size, 3, none⟩ = false := Lib.frozen_of_heap hh8 3
            have cc4 : y7.cell? ⟨y6.heap.size, 4, none⟩ = some (.slice none 0 0) := Lib.cell_of_heap hh8 4
            have ff4 : y7.frozen? ⟨y6.heap.size, 4, none⟩ = false := Lib.frozen_of_heap hh8 4
            have cc5 : y7.cell? ⟨y6.heap.size, 5, none⟩ = some (.slice none 0 0) := Lib.cell_of_heap hh8 5
            have ff5 : y7.frozen? ⟨y6.heap.size, 5, none⟩ = false := Lib.frozen_of_heap hh8 5
            have cc6 : y7.cell? ⟨y6.heap.size, 6, none⟩ = some (.slice none 0 0) := Lib.cell_of_heap hh8 6
            have ff6 : y7.frozen? ⟨y6.heap.size, 6, none⟩ = false := Lib.frozen_of_heap hh8 6
            go_wp2_with fail
            clear cc0 ff0 cc1 ff1 cc2 ff2 cc3 ff3 cc4 ff4 cc5 ff5 cc6 ff6
            obtain ⟨y8, hY8, hp8, hk8, hs8, hb8⟩ := store7 (W := y7.drewN m8) (.int .i64 q.hor) (.slice Qs q.stops.length Qs_) (.slice Qp q.paths.length Qp_) (.slice Qd q.doors.length Qd_) (.slice Qr q.routes.length Qr_) (.slice Qt q.trips.length Qt_) (.slice Qh q.hazs.length Qh_) hh8
            rw [hY8]
            clear hY8 hh8
            have HB8 := Lib.hid (hb8 _ _ (HPA7.out) (below_drewN HB7.out m8))
            have HG8 := Lib.hid (HG7.out.keep hs8 fun b _ hP => hk8 b hP.1)
            have HA8 := Lib.hid hp8
            have HAq8 := Lib.hid (show y8.heap[y6.heap.size]? = some (.cells #[.int .i64 q.hor, q.vs, q.vp, q.vd, q.vr, q.vt, q.vh] 29 (0, 0)) by obtain ⟨e1, e2, e3, e4, e5, e6⟩ := HFq.out; rw [e1, e2, e3, e4, e5, e6]; exact hp8)
            have HPA8 := HPA7
            have HF8 := Lib.hid ((hk8 y1.heap.size (HNE7.out.symm)).trans HF7.out)
            have HPB8 := HPB7
            clear hp8 hk8 hs8 hb8
            show _ ∧ _
            refine ⟨HB8.out, ?_⟩
            refine goon_all [16] (by kernel_rfl) (by decide) (fun i hi => ?_)
            simp only [List.mem_cons, List.not_mem_nil, or_false] at hi
            subst hi
            refine hOp_keeps (by rfl) rfl (fun m9 => ?_)
            have hh9 := HF8.out
            have cc0 : y8.cell? ⟨y1.heap.size, 0, none⟩ = some (.int .i64 0) := Lib.cell_of_heap hh9 0
            have ff0 : y8.frozen? ⟨y1.heap.size, 0, none⟩ = false := Lib.frozen_of_heap hh9 0
            have cc1 : y8.cell? ⟨y1.heap.size, 1, none⟩ = some (.int .i64 0) := Lib.cell_of_heap hh9 1
            have ff1 : y8.frozen? ⟨y1.heap.size, 1, none⟩ = false := Lib.frozen_of_heap hh9 1
            have cc2 : y8.cell? ⟨y1.heap.size, 2, none⟩ = some (.int .i64 0) := Lib.cell_of_heap hh9 2
            have ff2 : y8.frozen? ⟨y1.heap.size, 2, none⟩ = false := Lib.frozen_of_heap hh9 2
            go_wp2_with fail
            clear cc0 ff0 cc1 ff1 cc2 ff2
            obtain ⟨y9, hY9, hp9, hk9, hs9, hb9⟩ := store3 (W := y8.drewN m9) (.int .i64 fx) (.int .i64 g2) (.int .i64 g3) hh9
            rw [hY9]
            clear hY9 hh9
            have HB9 := Lib.hid (hb9 _ _ (HPB8.out) (below_drewN HB8.out m9))
            have HG9 := Lib.hid (HG8.out.keep hs9 fun b _ hP => hk9 b hP.2)
            have HF9 := Lib.hid hp9
            have HPB9 := HPB8
            have HA9 := Lib.hid ((hk9 y6.heap.size (HNE7.out)).trans HA8.out)
            have HPA9 := HPA8
            have HAq9 := Lib.hid ((hk9 y6.heap.size (HNE7.out)).trans HAq8.out)
            clear hp9 hk9 hs9 hb9
            show _ ∧ _
            refine ⟨HB9.out, ?_⟩
            refine goon_end (by kernel_rfl) (fun mz => ?_)
            go_wp2_with fail
            go_meet
            case rel => exact ⟨q, y6.heap.size, y1.heap.size, rfl, rfl, below_drewN HB9.out mz, HQD.out, (HG9.out.below_ (below_drewN (Below.refl _ _) mz)).mono fun _ _ => trivial, HAq9.out, HF9.out⟩
        · skip
          refine hOp_keeps (by rfl) rfl (fun m10 => ?_)
          go_wp2_with fail
          generalize hw10 : World.alloc _ (.cells #[.int .i64 0, .slice none 0 0, .slice none 0 0, .slice none 0 0, .slice none 0 0, .slice none 0 0, .slice none 0 0] 29) = y10
          have HN10 := Lib.hid (show Below w13.heap.size w13 y10 by rw [← hw10]; exact (below_drewN (Below.refl _ _) _).alloc (Nat.le_refl _) _)
          have HH10 := Lib.hid (show y10.heap[w13.heap.size]? = some (.cells #[.int .i64 0, .slice none 0 0, .slice none 0 0, .slice none 0 0, .slice none 0 0, .slice none 0 0, .slice none 0 0] 29 (0, 0)) by rw [← hw10]; exact heap_alloc_new _ _)
          have HS10 := Lib.hid (show w13.heap.size < y10.heap.size by rw [← hw10]; simp)
          clear hw10
          have HB10 := Lib.hid (HB0.out.trans (HN10.out.mono HB0.out.size))
          have HA10 := HH10
          have HPA10 := Lib.hid (show w13.heap.size ≤ w13.heap.size from HB0.out.size)
          show _ ∧ _
          refine ⟨HB10.out, ?_⟩
          refine goon_all [9, 14] (by kernel_rfl) (by decide) (fun i hi => ?_)
          simp only [List.mem_cons, List.not_mem_nil, or_false] at hi
          rcases hi with rfl | rfl
          · skip
            refine hOp_keeps (by rfl) rfl (fun m11 => ?_)
            have ha11 := HA10.out
            go_wp2_with fail
            have hw11 : Below w.heap.size w (y10.drewN m11) := below_drewN (HBw13.out.trans (HB10.out.mono HBw13.out.size)) m11
            try rw [HU.out]
            refine (HPR.out (y10.drewN m11) (HT.out.below hw11) (HL.out.below hw11)).mono ?_
            clear hw11
            rintro e y11 ⟨q, hqd, rfl, hgq, hb⟩
            have HN11 := Lib.hid (show Below y10.heap.size y10 y11 from (below_drewN (Below.refl _ _) m11).trans hb)
            have HQD := Lib.hid hqd
            have hgq2 := hgq.mono (Q := fun b => b ≠ w13.heap.size ∧ True) fun b hb => ⟨(by have h1 : w13.heap.size < y10.heap.size := (Array.getElem?_eq_some_iff.1 HA10.out).1; have h2 : y10.heap.size ≤ b := hb; omega), trivial⟩
            clear hb hqd hgq
            obtain ⟨Qs, Qs_, Qp, Qp_, Qd, Qd_, Qr, Qr_, Qt, Qt_, Qh, Qh_, eqs, eqp, eqd, eqr, eqt, eqh⟩ := SheetAt.forms hgq2
            have Vq : q.v = .agg #[.int .i64 q.hor, .slice Qs q.stops.length Qs_, .slice Qp q.paths.length Qp_, .slice Qd q.doors.length Qd_, .slice Qr q.routes.length Qr_, .slice Qt q.trips.length Qt_, .slice Qh q.hazs.length Qh_] := by
              unfold SheetM.v; rw [eqs, eqp, eqd, eqr, eqt, eqh]
            rw [Vq]
            have HVq := Lib.hid Vq
            have HGq := Lib.hid hgq2
            have HFq := Lib.hid (show q.vs = .slice Qs q.stops.length Qs_ ∧ q.vp = .slice Qp q.paths.length Qp_ ∧ q.vd = .slice Qd q.doors.length Qd_ ∧ q.vr = .slice Qr q.routes.length Qr_ ∧ q.vt = .slice Qt q.trips.length Qt_ ∧ q.vh = .slice Qh q.hazs.length Qh_ from ⟨eqs, eqp, eqd, eqr, eqt, eqh⟩)
            clear Vq hgq2 eqs eqp eqd eqr eqt eqh
            have HG11 := HGq
            have HB11 := Lib.hid (HB10.out.trans (HN11.out.mono HB10.out.size))
            have HA11 := Lib.hid ((HN11.out.block w13.heap.size (Array.getElem?_eq_some_iff.1 HA10.out).1).trans HA10.out)
            have HPA11 := HPA10
            go_wp2_with fail
            show _ ∧ _
            refine ⟨HB11.out, ?_⟩
            refine goon_walk [10, 11, 12] 3 rfl (by kernel_rfl) (by kernel_rfl) (fun w n h => below_drewN h n) ?_
            repeat (first | (refine wpKind_free (v := ?_) (by rfl) rfl (by rfl) ?_ ?_; rotate_left 1; (focus (intro wy; go_simp; try with_reducible rfl; done)); try simp only [Act.put, List.setIfInBounds_toArray, List.set_cons_zero, List.set_cons_succ]))
            refine wpKind_fin ?_
            refine goon_all [14] (by kernel_rfl) (by decide) (fun i hi => ?_)
            simp only [List.mem_cons, List.not_mem_nil, or_false] at hi
            subst hi
            refine hOp_keeps (by rfl) rfl (fun m12 => ?_)
            go_wp2_with fail
            generalize hw12 : World.alloc _ (.cells #[.int .i64 0, .int .i64 0, .int .i64 0] 39) = y12
            have HN12 := Lib.hid (show Below y11.heap.size y11 y12 by rw [← hw12]; exact (below_drewN (Below.refl _ _) _).alloc (Nat.le_refl _) _)
            have HH12 := Lib.hid (show y12.heap[y11.heap.size]? = some (.cells #[.int .i64 0, .int .i64 0, .int .i64 0] 39 (0, 0)) by rw [← hw12]; exact heap_alloc_new _ _)
            have HS12 := Lib.hid (show y11.heap.size < y12.heap.size by rw [← hw12]; simp)
            clear hw12
            have HB12 := Lib.hid (HB11.out.trans (HN12.out.mono HB11.out.size))
            have HG12 := Lib.hid ((HG11.out.lt_.below_ HN12.out).mono (Q := fun b => b ≠ w13.heap.size ∧ b ≠ y11.heap.size) fun b hb => ⟨hb.1.1, Nat.ne_of_lt hb.2⟩)
            have HA12 := Lib.hid ((HN12.out.block w13.heap.size (Array.getElem?_eq_some_iff.1 HA11.out).1).trans HA11.out)
            have HPA12 := HPA11
            have HF12 := HH12
            have HPB12 := Lib.hid (show w13.heap.size ≤ y11.heap.size from HB11.out.size)
            have HNE12 := Lib.hid (show w13.heap.size ≠ y11.heap.size from Nat.ne_of_lt (Array.getElem?_eq_some_iff.1 HA11.out).1)
            show _ ∧ _
            refine ⟨HB12.out, ?_⟩
            refine goon_all [15] (by kernel_rfl) (by decide) (fun i hi => ?_)
            simp only [List.mem_cons, List.not_mem_nil, or_false] at hi
            subst hi
            refine hOp_keeps (by rfl) rfl (fun m13 => ?_)
            have hh13 := HA12.out
            have cc0 : y12.cell? ⟨w13.heap.size, 0, none⟩ = some (.int .i64 0) := Lib.cell_of_heap hh13 0
            have ff0 : y12.frozen? ⟨w13.heap.size, 0, none⟩ = false := Lib.frozen_of_heap hh13 0
            have cc1 : y12.cell? ⟨w13.heap.size, 1, none⟩ = some (.slice none 0 0) := Lib.cell_of_heap hh13 1
            have ff1 : y12.frozen? ⟨w13.heap.size, 1, none⟩ = false := Lib.frozen_of_heap hh13 1
            have cc2 : y12.cell? ⟨w13.heap.size, 2, none⟩ = some (.slice none 0 0) := Lib.cell_of_heap hh13 2
            have ff2 : y12.frozen? ⟨w13.heap.size, 2, none⟩ = false := Lib.frozen_of_heap hh13 2
            have cc3 : y12.cell? ⟨w13.heap.size, 3, none⟩ = some (.slice none 0 0) := Lib.cell_of_heap hh13 3
            have ff3 : y12.frozen? ⟨w13.heap.size, 3, none⟩ = false := Lib.frozen_of_heap hh13 3
            have cc4 : y12.cell? ⟨w13.heap.size, 4, none⟩ = some (.slice none 0 0) := Lib.cell_of_heap hh13 4
            have ff4 : y12.frozen? ⟨w13.heap.size, 4, none⟩ = false := Lib.frozen_of_heap hh13 4
            have cc5 : y12.cell? ⟨w13.heap.size, 5, none⟩ = some (.slice none 0 0) := Lib.cell_of_heap hh13 5
            have ff5 : y12.frozen? ⟨w13.heap.size, 5, none⟩ = false := Lib.frozen_of_heap hh13 5
            have cc6 : y12.cell? ⟨w13.heap.size, 6, none⟩ = some (.slice none 0 0) := Lib.cell_of_heap hh13 6
            have ff6 : y12.frozen? ⟨w13.heap.size, 6, none⟩ = false := Lib.frozen_of_heap hh13 6
            go_wp2_with fail
            clear cc0 ff0 cc1 ff1 cc2 ff2 cc3 ff3 cc4 ff4 cc5 ff5 cc6 ff6
            obtain ⟨y13, hY13, hp13, hk13, hs13, hb13⟩ := store7 (W := y12.drewN m13) (.int .i64 q.hor) (.slice Qs q.stops.length Qs_) (.slice Qp q.paths.length Qp_) (.slice Qd q.doors.length Qd_) (.slice Qr q.routes.length Qr_) (.slice Qt q.trips.length Qt_) (.slice Qh q.hazs.length Qh_) hh13
            rw [hY13]
            clear hY13 hh13
            have HB13 := Lib.hid (hb13 _ _ (HPA12.out) (below_drewN HB12.out m13))
            have HG13 := Lib.hid (HG12.out.keep hs13 fun b _ hP => hk13 b hP.1)
            have HA13 := Lib.hid hp13
            have HAq13 := Lib.hid (show y13.heap[w13.heap.size]? = some (.cells #[.int .i64 q.hor, q.vs, q.vp, q.vd, q.vr, q.vt, q.vh] 29 (0, 0)) by obtain ⟨e1, e2, e3, e4, e5, e6⟩ := HFq.out; rw [e1, e2, e3, e4, e5, e6]; exact hp13)
            have HPA13 := HPA12
            have HF13 := Lib.hid ((hk13 y11.heap.size (HNE12.out.symm)).trans HF12.out)
            have HPB13 := HPB12
            clear hp13 hk13 hs13 hb13
            show _ ∧ _
            refine ⟨HB13.out, ?_⟩
            refine goon_all [16] (by kernel_rfl) (by decide) (fun i hi => ?_)
            simp only [List.mem_cons, List.not_mem_nil, or_false] at hi
            subst hi
            refine hOp_keeps (by rfl) rfl (fun m14 => ?_)
            have hh14 := HF13.out
            have cc0 : y13.cell? ⟨y11.heap.size, 0, none⟩ = some (.int .i64 0) := Lib.cell_of_heap hh14 0
            have ff0 : y13.frozen? ⟨y11.heap.size, 0, none⟩ = false := Lib.frozen_of_heap hh14 0
            have cc1 : y13.cell? ⟨y11.heap.size, 1, none⟩ = some (.int .i64 0) := Lib.cell_of_heap hh14 1
            have ff1 : y13.frozen? ⟨y11.heap.size, 1, none⟩ = false := Lib.frozen_of_heap hh14 1
            have cc2 : y13.cell? ⟨y11.heap.size, 2, none⟩ = some (.int .i64 0) := Lib.cell_of_heap hh14 2
            have ff2 : y13.frozen? ⟨y11.heap.size, 2, none⟩ = false := Lib.frozen_of_heap hh14 2
            go_wp2_with fail
            clear cc0 ff0 cc1 ff1 cc2 ff2
            obtain ⟨y14, hY14, hp14, hk14, hs14, hb14⟩ := store3 (W := y13.drewN m14) (.int .i64 fx) (.int .i64 g2) (.int .i64 g3) hh14
            rw [hY14]
            clear hY14 hh14
            have HB14 := Lib.hid (hb14 _ _ (HPB13.out) (below_drewN HB13.out m14))
            have HG14 := Lib.hid (HG13.out.keep hs14 fun b _ hP => hk14 b hP.2)
            have HF14 := Lib.hid hp14
            have HPB14 := HPB13
            have HA14 := Lib.hid ((hk14 w13.heap.size (HNE12.out)).trans HA13.out)
            have HPA14 := HPA13
            have HAq14 := Lib.hid ((hk14 w13.heap.size (HNE12.out)).trans HAq13.out)
            clear hp14 hk14 hs14 hb14
            show _ ∧ _
            refine ⟨HB14.out, ?_⟩
            refine goon_end (by kernel_rfl) (fun mz => ?_)
            go_wp2_with fail
            go_meet
            case rel => exact ⟨q, w13.heap.size, y11.heap.size, rfl, rfl, below_drewN HB14.out mz, HQD.out, (HG14.out.below_ (below_drewN (Below.refl _ _) mz)).mono fun _ _ => trivial, HAq14.out, HF14.out⟩
          · skip
            refine hOp_keeps (by rfl) rfl (fun m15 => ?_)
            go_wp2_with fail
            generalize hw15 : World.alloc _ (.cells #[.int .i64 0, .int .i64 0, .int .i64 0] 39) = y15
            have HN15 := Lib.hid (show Below y10.heap.size y10 y15 by rw [← hw15]; exact (below_drewN (Below.refl _ _) _).alloc (Nat.le_refl _) _)
            have HH15 := Lib.hid (show y15.heap[y10.heap.size]? = some (.cells #[.int .i64 0, .int .i64 0, .int .i64 0] 39 (0, 0)) by rw [← hw15]; exact heap_alloc_new _ _)
            have HS15 := Lib.hid (show y10.heap.size < y15.heap.size by rw [← hw15]; simp)
            clear hw15
            have HB15 := Lib.hid (HB10.out.trans (HN15.out.mono HB10.out.size))
            have HA15 := Lib.hid ((HN15.out.block w13.heap.size (Array.getElem?_eq_some_iff.1 HA10.out).1).trans HA10.out)
            have HPA15 := HPA10
            have HF15 := HH15
            have HPB15 := Lib.hid (show w13.heap.size ≤ y10.heap.size from HB10.out.size)
            have HNE15 := Lib.hid (show w13.heap.size ≠ y10.heap.size from Nat.ne_of_lt (Array.getElem?_eq_some_iff.1 HA10.out).1)
            show _ ∧ _
            refine ⟨HB15.out, ?_⟩
            refine goon_all [9] (by kernel_rfl) (by decide) (fun i hi => ?_)
            simp only [List.mem_cons, List.not_mem_nil, or_false] at hi
            subst hi
            refine hOp_keeps (by rfl) rfl (fun m16 => ?_)
            have ha16 := HA15.out
            go_wp2_with fail
            have hw16 : Below w.heap.size w (y15.drewN m16) := below_drewN (HBw13.out.trans (HB15.out.mono HBw13.out.size)) m16
            try rw [HU.out]
            refine (HPR.out (y15.drewN m16) (HT.out.below hw16) (HL.out.below hw16)).mono ?_
            clear hw16
            rintro e y16 ⟨q, hqd, rfl, hgq, hb⟩
            have HN16 := Lib.hid (show Below y15.heap.size y15 y16 from (below_drewN (Below.refl _ _) m16).trans hb)
            have HQD := Lib.hid hqd
            have hgq2 := hgq.mono (Q := fun b => b ≠ w13.heap.size ∧ b ≠ y10.heap.size) fun b hb => ⟨(by have h1 : w13.heap.size < y15.heap.size := (Array.getElem?_eq_some_iff.1 HA15.out).1; have h2 : y15.heap.size ≤ b := hb; omega), (by have h1 : y10.heap.size < y15.heap.size := (Array.getElem?_eq_some_iff.1 HF15.out).1; have h2 : y15.heap.size ≤ b := hb; omega)⟩
            clear hb hqd hgq
            obtain ⟨Qs, Qs_, Qp, Qp_, Qd, Qd_, Qr, Qr_, Qt, Qt_, Qh, Qh_, eqs, eqp, eqd, eqr, eqt, eqh⟩ := SheetAt.forms hgq2
            have Vq : q.v = .agg #[.int .i64 q.hor, .slice Qs q.stops.length Qs_, .slice Qp q.paths.length Qp_, .slice Qd q.doors.length Qd_, .slice Qr q.routes.length Qr_, .slice Qt q.trips.length Qt_, .slice Qh q.hazs.length Qh_] := by
              unfold SheetM.v; rw [eqs, eqp, eqd, eqr, eqt, eqh]
            rw [Vq]
            have HVq := Lib.hid Vq
            have HGq := Lib.hid hgq2
            have HFq := Lib.hid (show q.vs = .slice Qs q.stops.length Qs_ ∧ q.vp = .slice Qp q.paths.length Qp_ ∧ q.vd = .slice Qd q.doors.length Qd_ ∧ q.vr = .slice Qr q.routes.length Qr_ ∧ q.vt = .slice Qt q.trips.length Qt_ ∧ q.vh = .slice Qh q.hazs.length Qh_ from ⟨eqs, eqp, eqd, eqr, eqt, eqh⟩)
            clear Vq hgq2 eqs eqp eqd eqr eqt eqh
            have HG16 := HGq
            have HB16 := Lib.hid (HB15.out.trans (HN16.out.mono HB15.out.size))
            have HA16 := Lib.hid ((HN16.out.block w13.heap.size (Array.getElem?_eq_some_iff.1 HA15.out).1).trans HA15.out)
            have HPA16 := HPA15
            have HF16 := Lib.hid ((HN16.out.block y10.heap.size (Array.getElem?_eq_some_iff.1 HF15.out).1).trans HF15.out)
            have HPB16 := HPB15
            go_wp2_with fail
            show _ ∧ _
            refine ⟨HB16.out, ?_⟩
            refine goon_walk [10, 11, 12] 2 rfl (by kernel_rfl) (by kernel_rfl) (fun w n h => below_drewN h n) ?_
            repeat (first | (refine wpKind_free (v := ?_) (by rfl) rfl (by rfl) ?_ ?_; rotate_left 1; (focus (intro wy; go_simp; try with_reducible rfl; done)); try simp only [Act.put, List.setIfInBounds_toArray, List.set_cons_zero, List.set_cons_succ]))
            refine wpKind_fin ?_
            refine goon_all [15] (by kernel_rfl) (by decide) (fun i hi => ?_)
            simp only [List.mem_cons, List.not_mem_nil, or_false] at hi
            subst hi
            refine hOp_keeps (by rfl) rfl (fun m17 => ?_)
            have hh17 := HA16.out
            have cc0 : y16.cell? ⟨w13.heap.size, 0, none⟩ = some (.int .i64 0) := Lib.cell_of_heap hh17 0
            have ff0 : y16.frozen? ⟨w13.heap.size, 0, none⟩ = false := Lib.frozen_of_heap hh17 0
            have cc1 : y16.cell? ⟨w13.heap.size, 1, none⟩ = some (.slice none 0 0) := Lib.cell_of_heap hh17 1
            have ff1 : y16.frozen? ⟨w13.heap.size, 1, none⟩ = false := Lib.frozen_of_heap hh17 1
            have cc2 : y16.cell? ⟨w13.heap.size, 2, none⟩ = some (.slice none 0 0) := Lib.cell_of_heap hh17 2
            have ff2 : y16.frozen? ⟨w13.heap.size, 2, none⟩ = false := Lib.frozen_of_heap hh17 2
            have cc3 : y16.cell? ⟨w13.heap.size, 3, none⟩ = some (.slice none 0 0) := Lib.cell_of_heap hh17 3
            have ff3 : y16.frozen? ⟨w13.heap.size, 3, none⟩ = false := Lib.frozen_of_heap hh17 3
            have cc4 : y16.cell? ⟨w13.heap.size, 4, none⟩ = some (.slice none 0 0) := Lib.cell_of_heap hh17 4
            have ff4 : y16.frozen? ⟨w13.heap.size, 4, none⟩ = false := Lib.frozen_of_heap hh17 4
            have cc5 : y16.cell? ⟨w13.heap.size, 5, none⟩ = some (.slice none 0 0) := Lib.cell_of_heap hh17 5
            have ff5 : y16.frozen? ⟨w13.heap.size, 5, none⟩ = false := Lib.frozen_of_heap hh17 5
            have cc6 : y16.cell? ⟨w13.heap.size, 6, none⟩ = some (.slice none 0 0) := Lib.cell_of_heap hh17 6
            have ff6 : y16.frozen? ⟨w13.heap.size, 6, none⟩ = false := Lib.frozen_of_heap hh17 6
            go_wp2_with fail
            clear cc0 ff0 cc1 ff1 cc2 ff2 cc3 ff3 cc4 ff4 cc5 ff5 cc6 ff6
            obtain ⟨y17, hY17, hp17, hk17, hs17, hb17⟩ := store7 (W := y16.drewN m17) (.int .i64 q.hor) (.slice Qs q.stops.length Qs_) (.slice Qp q.paths.length Qp_) (.slice Qd q.doors.length Qd_) (.slice Qr q.routes.length Qr_) (.slice Qt q.trips.length Qt_) (.slice Qh q.hazs.length Qh_) hh17
            rw [hY17]
            clear hY17 hh17
            have HB17 := Lib.hid (hb17 _ _ (HPA16.out) (below_drewN HB16.out m17))
            have HG17 := Lib.hid (HG16.out.keep hs17 fun b _ hP => hk17 b hP.1)
            have HA17 := Lib.hid hp17
            have HAq17 := Lib.hid (show y17.heap[w13.heap.size]? = some (.cells #[.int .i64 q.hor, q.vs, q.vp, q.vd, q.vr, q.vt, q.vh] 29 (0, 0)) by obtain ⟨e1, e2, e3, e4, e5, e6⟩ := HFq.out; rw [e1, e2, e3, e4, e5, e6]; exact hp17)
            have HPA17 := HPA16
            have HF17 := Lib.hid ((hk17 y10.heap.size (HNE15.out.symm)).trans HF16.out)
            have HPB17 := HPB16
            clear hp17 hk17 hs17 hb17
            show _ ∧ _
            refine ⟨HB17.out, ?_⟩
            refine goon_all [16] (by kernel_rfl) (by decide) (fun i hi => ?_)
            simp only [List.mem_cons, List.not_mem_nil, or_false] at hi
            subst hi
            refine hOp_keeps (by rfl) rfl (fun m18 => ?_)
            have hh18 := HF17.out
            have cc0 : y17.cell? ⟨y10.heap.size, 0, none⟩ = some (.int .i64 0) := Lib.cell_of_heap hh18 0
            have ff0 : y17.frozen? ⟨y10.heap.size, 0, none⟩ = false := Lib.frozen_of_heap hh18 0
            have cc1 : y17.cell? ⟨y10.heap.size, 1, none⟩ = some (.int .i64 0) := Lib.cell_of_heap hh18 1
            have ff1 : y17.frozen? ⟨y10.heap.size, 1, none⟩ = false := Lib.frozen_of_heap hh18 1
            have cc2 : y17.cell? ⟨y10.heap.size, 2, none⟩ = some (.int .i64 0) := Lib.cell_of_heap hh18 2
            have ff2 : y17.frozen? ⟨y10.heap.size, 2, none⟩ = false := Lib.frozen_of_heap hh18 2
            go_wp2_with fail
            clear cc0 ff0 cc1 ff1 cc2 ff2
            obtain ⟨y18, hY18, hp18, hk18, hs18, hb18⟩ := store3 (W := y17.drewN m18) (.int .i64 fx) (.int .i64 g2) (.int .i64 g3) hh18
            rw [hY18]
            clear hY18 hh18
            have HB18 := Lib.hid (hb18 _ _ (HPB17.out) (below_drewN HB17.out m18))
            have HG18 := Lib.hid (HG17.out.keep hs18 fun b _ hP => hk18 b hP.2)
            have HF18 := Lib.hid hp18
            have HPB18 := HPB17
            have HA18 := Lib.hid ((hk18 w13.heap.size (HNE15.out)).trans HA17.out)
            have HPA18 := HPA17
            have HAq18 := Lib.hid ((hk18 w13.heap.size (HNE15.out)).trans HAq17.out)
            clear hp18 hk18 hs18 hb18
            show _ ∧ _
            refine ⟨HB18.out, ?_⟩
            refine goon_end (by kernel_rfl) (fun mz => ?_)
            go_wp2_with fail
            go_meet
            case rel => exact ⟨q, w13.heap.size, y10.heap.size, rfl, rfl, below_drewN HB18.out mz, HQD.out, (HG18.out.below_ (below_drewN (Below.refl _ _) mz)).mono fun _ _ => trivial, HAq18.out, HF18.out⟩
        · skip
          refine hOp_keeps (by rfl) rfl (fun m19 => ?_)
          go_wp2_with fail
          generalize hw19 : World.alloc _ (.cells #[.int .i64 0, .int .i64 0, .int .i64 0] 39) = y19
          have HN19 := Lib.hid (show Below w13.heap.size w13 y19 by rw [← hw19]; exact (below_drewN (Below.refl _ _) _).alloc (Nat.le_refl _) _)
          have HH19 := Lib.hid (show y19.heap[w13.heap.size]? = some (.cells #[.int .i64 0, .int .i64 0, .int .i64 0] 39 (0, 0)) by rw [← hw19]; exact heap_alloc_new _ _)
          have HS19 := Lib.hid (show w13.heap.size < y19.heap.size by rw [← hw19]; simp)
          clear hw19
          have HB19 := Lib.hid (HB0.out.trans (HN19.out.mono HB0.out.size))
          have HF19 := HH19
          have HPB19 := Lib.hid (show w13.heap.size ≤ w13.heap.size from HB0.out.size)
          show _ ∧ _
          refine ⟨HB19.out, ?_⟩
          refine goon_all [9, 13] (by kernel_rfl) (by decide) (fun i hi => ?_)
          simp only [List.mem_cons, List.not_mem_nil, or_false] at hi
          rcases hi with rfl | rfl
          · skip
            refine hOp_keeps (by rfl) rfl (fun m20 => ?_)
            go_wp2_with fail
            have hw20 : Below w.heap.size w (y19.drewN m20) := below_drewN (HBw13.out.trans (HB19.out.mono HBw13.out.size)) m20
            try rw [HU.out]
            refine (HPR.out (y19.drewN m20) (HT.out.below hw20) (HL.out.below hw20)).mono ?_
            clear hw20
            rintro e y20 ⟨q, hqd, rfl, hgq, hb⟩
            have HN20 := Lib.hid (show Below y19.heap.size y19 y20 from (below_drewN (Below.refl _ _) m20).trans hb)
            have HQD := Lib.hid hqd
            have hgq2 := hgq.mono (Q := fun b => True ∧ b ≠ w13.heap.size) fun b hb => ⟨trivial, (by have h1 : w13.heap.size < y19.heap.size := (Array.getElem?_eq_some_iff.1 HF19.out).1; have h2 : y19.heap.size ≤ b := hb; omega)⟩
            clear hb hqd hgq
            obtain ⟨Qs, Qs_, Qp, Qp_, Qd, Qd_, Qr, Qr_, Qt, Qt_, Qh, Qh_, eqs, eqp, eqd, eqr, eqt, eqh⟩ := SheetAt.forms hgq2
            have Vq : q.v = .agg #[.int .i64 q.hor, .slice Qs q.stops.length Qs_, .slice Qp q.paths.length Qp_, .slice Qd q.doors.length Qd_, .slice Qr q.routes.length Qr_, .slice Qt q.trips.length Qt_, .slice Qh q.hazs.length Qh_] := by
              unfold SheetM.v; rw [eqs, eqp, eqd, eqr, eqt, eqh]
            rw [Vq]
            have HVq := Lib.hid Vq
            have HGq := Lib.hid hgq2
            have HFq := Lib.hid (show q.vs = .slice Qs q.stops.length Qs_ ∧ q.vp = .slice Qp q.paths.length Qp_ ∧ q.vd = .slice Qd q.doors.length Qd_ ∧ q.vr = .slice Qr q.routes.length Qr_ ∧ q.vt = .slice Qt q.trips.length Qt_ ∧ q.vh = .slice Qh q.hazs.length Qh_ from ⟨eqs, eqp, eqd, eqr, eqt, eqh⟩)
            clear Vq hgq2 eqs eqp eqd eqr eqt eqh
            have HG20 := HGq
            have HB20 := Lib.hid (HB19.out.trans (HN20.out.mono HB19.out.size))
            have HF20 := Lib.hid ((HN20.out.block w13.heap.size (Array.getElem?_eq_some_iff.1 HF19.out).1).trans HF19.out)
            have HPB20 := HPB19
            go_wp2_with fail
            show _ ∧ _
            refine ⟨HB20.out, ?_⟩
            refine goon_walk [10, 11, 12] 3 rfl (by kernel_rfl) (by kernel_rfl) (fun w n h => below_drewN h n) ?_
            repeat (first | (refine wpKind_free (v := ?_) (by rfl) rfl (by rfl) ?_ ?_; rotate_left 1; (focus (intro wy; go_simp; try with_reducible rfl; done)); try simp only [Act.put, List.setIfInBounds_toArray, List.set_cons_zero, List.set_cons_succ]))
            refine wpKind_fin ?_
            refine goon_all [13] (by kernel_rfl) (by decide) (fun i hi => ?_)
            simp only [List.mem_cons, List.not_mem_nil, or_false] at hi
            subst hi
            refine hOp_keeps (by rfl) rfl (fun m21 => ?_)
            go_wp2_with fail
            generalize hw21 : World.alloc _ (.cells #[.int .i64 0, .slice none 0 0, .slice none 0 0, .slice none 0 0, .slice none 0 0, .slice none 0 0, .slice none 0 0] 29) = y21
            have HN21 := Lib.hid (show Below y20.heap.size y20 y21 by rw [← hw21]; exact (below_drewN (Below.refl _ _) _).alloc (Nat.le_refl _) _)
            have HH21 := Lib.hid (show y21.heap[y20.heap.size]? = some (.cells #[.int .i64 0, .slice none 0 0, .slice none 0 0, .slice none 0 0, .slice none 0 0, .slice none 0 0, .slice none 0 0] 29 (0, 0)) by rw [← hw21]; exact heap_alloc_new _ _)
            have HS21 := Lib.hid (show y20.heap.size < y21.heap.size by rw [← hw21]; simp)
            clear hw21
            have HB21 := Lib.hid (HB20.out.trans (HN21.out.mono HB20.out.size))
            have HG21 := Lib.hid ((HG20.out.lt_.below_ HN21.out).mono (Q := fun b => b ≠ y20.heap.size ∧ b ≠ w13.heap.size) fun b hb => ⟨Nat.ne_of_lt hb.2, hb.1.2⟩)
            have HF21 := Lib.hid ((HN21.out.block w13.heap.size (Array.getElem?_eq_some_iff.1 HF20.out).1).trans HF20.out)
            have HPB21 := HPB20
            have HA21 := HH21
            have HPA21 := Lib.hid (show w13.heap.size ≤ y20.heap.size from HB20.out.size)
            have HNE21 := Lib.hid (show y20.heap.size ≠ w13.heap.size from Nat.ne_of_gt (Array.getElem?_eq_some_iff.1 HF20.out).1)
            show _ ∧ _
            refine ⟨HB21.out, ?_⟩
            refine goon_all [15] (by kernel_rfl) (by decide) (fun i hi => ?_)
            simp only [List.mem_cons, List.not_mem_nil, or_false] at hi
            subst hi
            refine hOp_keeps (by rfl) rfl (fun m22 => ?_)
            have hh22 := HA21.out
            have cc0 : y21.cell? ⟨y20.heap.size, 0, none⟩ = some (.int .i64 0) := Lib.cell_of_heap hh22 0
            have ff0 : y21.frozen? ⟨y20.heap.size, 0, none⟩ = false := Lib.frozen_of_heap hh22 0
            have cc1 : y21.cell? ⟨y20.heap.size, 1, none⟩ = some (.slice none 0 0) := Lib.cell_of_heap hh22 1
            have ff1 : y21.frozen? ⟨y20.heap.size, 1, none⟩ = false := Lib.frozen_of_heap hh22 1
            have cc2 : y21.cell? ⟨y20.heap.size, 2, none⟩ = some (.slice none 0 0) := Lib.cell_of_heap hh22 2
            have ff2 : y21.frozen? ⟨y20.heap.size, 2, none⟩ = false := Lib.frozen_of_heap hh22 2
            have cc3 : y21.cell? ⟨y20.heap.size, 3, none⟩ = some (.slice none 0 0) := Lib.cell_of_heap hh22 3
            have ff3 : y21.frozen? ⟨y20.heap.size, 3, none⟩ = false := Lib.frozen_of_heap hh22 3
            have cc4 : y21.cell? ⟨y20.heap.size, 4, none⟩ = some (.slice none 0 0) := Lib.cell_of_heap hh22 4
            have ff4 : y21.frozen? ⟨y20.heap.size, 4, none⟩ = false := Lib.frozen_of_heap hh22 4
            have cc5 : y21.cell? ⟨y20.heap.size, 5, none⟩ = some (.slice none 0 0) := Lib.cell_of_heap hh22 5
            have ff5 : y21.frozen? ⟨y20.heap.size, 5, none⟩ = false := Lib.frozen_of_heap hh22 5
            have cc6 : y21.cell? ⟨y20.heap.size, 6, none⟩ = some (.slice none 0 0) := Lib.cell_of_heap hh22 6
            have ff6 : y21.frozen? ⟨y20.heap.size, 6, none⟩ = false := Lib.frozen_of_heap hh22 6
            go_wp2_with fail
            clear cc0 ff0 cc1 ff1 cc2 ff2 cc3 ff3 cc4 ff4 cc5 ff5 cc6 ff6
            obtain ⟨y22, hY22, hp22, hk22, hs22, hb22⟩ := store7 (W := y21.drewN m22) (.int .i64 q.hor) (.slice Qs q.stops.length Qs_) (.slice Qp q.paths.length Qp_) (.slice Qd q.doors.length Qd_) (.slice Qr q.routes.length Qr_) (.slice Qt q.trips.length Qt_) (.slice Qh q.hazs.length Qh_) hh22
            rw [hY22]
            clear hY22 hh22
            have HB22 := Lib.hid (hb22 _ _ (HPA21.out) (below_drewN HB21.out m22))
            have HG22 := Lib.hid (HG21.out.keep hs22 fun b _ hP => hk22 b hP.1)
            have HA22 := Lib.hid hp22
            have HAq22 := Lib.hid (show y22.heap[y20.heap.size]? = some (.cells #[.int .i64 q.hor, q.vs, q.vp, q.vd, q.vr, q.vt, q.vh] 29 (0, 0)) by obtain ⟨e1, e2, e3, e4, e5, e6⟩ := HFq.out; rw [e1, e2, e3, e4, e5, e6]; exact hp22)
            have HPA22 := HPA21
            have HF22 := Lib.hid ((hk22 w13.heap.size (HNE21.out.symm)).trans HF21.out)
            have HPB22 := HPB21
            clear hp22 hk22 hs22 hb22
            show _ ∧ _
            refine ⟨HB22.out, ?_⟩
            refine goon_all [16] (by kernel_rfl) (by decide) (fun i hi => ?_)
            simp only [List.mem_cons, List.not_mem_nil, or_false] at hi
            subst hi
            refine hOp_keeps (by rfl) rfl (fun m23 => ?_)
            have hh23 := HF22.out
            have cc0 : y22.cell? ⟨w13.heap.size, 0, none⟩ = some (.int .i64 0) := Lib.cell_of_heap hh23 0
            have ff0 : y22.frozen? ⟨w13.heap.size, 0, none⟩ = false := Lib.frozen_of_heap hh23 0
            have cc1 : y22.cell? ⟨w13.heap.size, 1, none⟩ = some (.int .i64 0) := Lib.cell_of_heap hh23 1
            have ff1 : y22.frozen? ⟨w13.heap.size, 1, none⟩ = false := Lib.frozen_of_heap hh23 1
            have cc2 : y22.cell? ⟨w13.heap.size, 2, none⟩ = some (.int .i64 0) := Lib.cell_of_heap hh23 2
            have ff2 : y22.frozen? ⟨w13.heap.size, 2, none⟩ = false := Lib.frozen_of_heap hh23 2
            go_wp2_with fail
            clear cc0 ff0 cc1 ff1 cc2 ff2
            obtain ⟨y23, hY23, hp23, hk23, hs23, hb23⟩ := store3 (W := y22.drewN m23) (.int .i64 fx) (.int .i64 g2) (.int .i64 g3) hh23
            rw [hY23]
            clear hY23 hh23
            have HB23 := Lib.hid (hb23 _ _ (HPB22.out) (below_drewN HB22.out m23))
            have HG23 := Lib.hid (HG22.out.keep hs23 fun b _ hP => hk23 b hP.2)
            have HF23 := Lib.hid hp23
            have HPB23 := HPB22
            have HA23 := Lib.hid ((hk23 y20.heap.size (HNE21.out)).trans HA22.out)
            have HPA23 := HPA22
            have HAq23 := Lib.hid ((hk23 y20.heap.size (HNE21.out)).trans HAq22.out)
            clear hp23 hk23 hs23 hb23
            show _ ∧ _
            refine ⟨HB23.out, ?_⟩
            refine goon_end (by kernel_rfl) (fun mz => ?_)
            go_wp2_with fail
            go_meet
            case rel => exact ⟨q, y20.heap.size, w13.heap.size, rfl, rfl, below_drewN HB23.out mz, HQD.out, (HG23.out.below_ (below_drewN (Below.refl _ _) mz)).mono fun _ _ => trivial, HAq23.out, HF23.out⟩
          · skip
            refine hOp_keeps (by rfl) rfl (fun m24 => ?_)
            go_wp2_with fail
            generalize hw24 : World.alloc _ (.cells #[.int .i64 0, .slice none 0 0, .slice none 0 0, .slice none 0 0, .slice none 0 0, .slice none 0 0, .slice none 0 0] 29) = y24
            have HN24 := Lib.hid (show Below y19.heap.size y19 y24 by rw [← hw24]; exact (below_drewN (Below.refl _ _) _).alloc (Nat.le_refl _) _)
            have HH24 := Lib.hid (show y24.heap[y19.heap.size]? = some (.cells #[.int .i64 0, .slice none 0 0, .slice none 0 0, .slice none 0 0, .slice none 0 0, .slice none 0 0, .slice none 0 0] 29 (0, 0)) by rw [← hw24]; exact heap_alloc_new _ _)
            have HS24 := Lib.hid (show y19.heap.size < y24.heap.size by rw [← hw24]; simp)
            clear hw24
            have HB24 := Lib.hid (HB19.out.trans (HN24.out.mono HB19.out.size))
            have HF24 := Lib.hid ((HN24.out.block w13.heap.size (Array.getElem?_eq_some_iff.1 HF19.out).1).trans HF19.out)
            have HPB24 := HPB19
            have HA24 := HH24
            have HPA24 := Lib.hid (show w13.heap.size ≤ y19.heap.size from HB19.out.size)
            have HNE24 := Lib.hid (show y19.heap.size ≠ w13.heap.size from Nat.ne_of_gt (Array.getElem?_eq_some_iff.1 HF19.out).1)
            show _ ∧ _
            refine ⟨HB24.out, ?_⟩
            refine goon_all [9] (by kernel_rfl) (by decide) (fun i hi => ?_)
            simp only [List.mem_cons, List.not_mem_nil, or_false] at hi
            subst hi
            refine hOp_keeps (by rfl) rfl (fun m25 => ?_)
            have ha25 := HA24.out
            go_wp2_with fail
            have hw25 : Below w.heap.size w (y24.drewN m25) := below_drewN (HBw13.out.trans (HB24.out.mono HBw13.out.size)) m25
            try rw [HU.out]
            refine (HPR.out (y24.drewN m25) (HT.out.below hw25) (HL.out.below hw25)).mono ?_
            clear hw25
            rintro e y25 ⟨q, hqd, rfl, hgq, hb⟩
            have HN25 := Lib.hid (show Below y24.heap.size y24 y25 from (below_drewN (Below.refl _ _) m25).trans hb)
            have HQD := Lib.hid hqd
            have hgq2 := hgq.mono (Q := fun b => b ≠ y19.heap.size ∧ b ≠ w13.heap.size) fun b hb => ⟨(by have h1 : y19.heap.size < y24.heap.size := (Array.getElem?_eq_some_iff.1 HA24.out).1; have h2 : y24.heap.size ≤ b := hb; omega), (by have h1 : w13.heap.size < y24.heap.size := (Array.getElem?_eq_some_iff.1 HF24.out).1; have h2 : y24.heap.size ≤ b := hb; omega)⟩
            clear hb hqd hgq
            obtain ⟨Qs, Qs_, Qp, Qp_, Qd, Qd_, Qr, Qr_, Qt, Qt_, Qh, Qh_, eqs, eqp, eqd, eqr, eqt, eqh⟩ := SheetAt.forms hgq2
            have Vq : q.v = .agg #[.int .i64 q.hor, .slice Qs q.stops.length Qs_, .slice Qp q.paths.length Qp_, .slice Qd q.doors.length Qd_, .slice Qr q.routes.length Qr_, .slice Qt q.trips.length Qt_, .slice Qh q.hazs.length Qh_] := by
              unfold SheetM.v; rw [eqs, eqp, eqd, eqr, eqt, eqh]
            rw [Vq]
            have HVq := Lib.hid Vq
            have HGq := Lib.hid hgq2
            have HFq := Lib.hid (show q.vs = .slice Qs q.stops.length Qs_ ∧ q.vp = .slice Qp q.paths.length Qp_ ∧ q.vd = .slice Qd q.doors.length Qd_ ∧ q.vr = .slice Qr q.routes.length Qr_ ∧ q.vt = .slice Qt q.trips.length Qt_ ∧ q.vh = .slice Qh q.hazs.length Qh_ from ⟨eqs, eqp, eqd, eqr, eqt, eqh⟩)
            clear Vq hgq2 eqs eqp eqd eqr eqt eqh
            have HG25 := HGq
            have HB25 := Lib.hid (HB24.out.trans (HN25.out.mono HB24.out.size))
            have HA25 := Lib.hid ((HN25.out.block y19.heap.size (Array.getElem?_eq_some_iff.1 HA24.out).1).trans HA24.out)
            have HPA25 := HPA24
            have HF25 := Lib.hid ((HN25.out.block w13.heap.size (Array.getElem?_eq_some_iff.1 HF24.out).1).trans HF24.out)
            have HPB25 := HPB24
            go_wp2_with fail
            show _ ∧ _
            refine ⟨HB25.out, ?_⟩
            refine goon_walk [10, 11, 12] 2 rfl (by kernel_rfl) (by kernel_rfl) (fun w n h => below_drewN h n) ?_
            repeat (first | (refine wpKind_free (v := ?_) (by rfl) rfl (by rfl) ?_ ?_; rotate_left 1; (focus (intro wy; go_simp; try with_reducible rfl; done)); try simp only [Act.put, List.setIfInBounds_toArray, List.set_cons_zero, List.set_cons_succ]))
            refine wpKind_fin ?_
            refine goon_all [15] (by kernel_rfl) (by decide) (fun i hi => ?_)
            simp only [List.mem_cons, List.not_mem_nil, or_false] at hi
            subst hi
            refine hOp_keeps (by rfl) rfl (fun m26 => ?_)
            have hh26 := HA25.out
            have cc0 : y25.cell? ⟨y19.heap.size, 0, none⟩ = some (.int .i64 0) := Lib.cell_of_heap hh26 0
            have ff0 : y25.frozen? ⟨y19.heap.size, 0, none⟩ = false := Lib.frozen_of_heap hh26 0
            have cc1 : y25.cell? ⟨y19.heap.size, 1, none⟩ = some (.slice none 0 0) := Lib.cell_of_heap hh26 1
            have ff1 : y25.frozen? ⟨y19.heap.size, 1, none⟩ = false := Lib.frozen_of_heap hh26 1
            have cc2 : y25.cell? ⟨y19.heap.size, 2, none⟩ = some (.slice none 0 0) := Lib.cell_of_heap hh26 2
            have ff2 : y25.frozen? ⟨y19.heap.size, 2, none⟩ = false := Lib.frozen_of_heap hh26 2
            have cc3 : y25.cell? ⟨y19.heap.size, 3, none⟩ = some (.slice none 0 0) := Lib.cell_of_heap hh26 3
            have ff3 : y25.frozen? ⟨y19.heap.size, 3, none⟩ = false := Lib.frozen_of_heap hh26 3
            have cc4 : y25.cell? ⟨y19.heap.size, 4, none⟩ = some (.slice none 0 0) := Lib.cell_of_heap hh26 4
            have ff4 : y25.frozen? ⟨y19.heap.size, 4, none⟩ = false := Lib.frozen_of_heap hh26 4
            have cc5 : y25.cell? ⟨y19.heap.size, 5, none⟩ = some (.slice none 0 0) := Lib.cell_of_heap hh26 5
            have ff5 : y25.frozen? ⟨y19.heap.size, 5, none⟩ = false := Lib.frozen_of_heap hh26 5
            have cc6 : y25.cell? ⟨y19.heap.size, 6, none⟩ = some (.slice none 0 0) := Lib.cell_of_heap hh26 6
            have ff6 : y25.frozen? ⟨y19.heap.size, 6, none⟩ = false := Lib.frozen_of_heap hh26 6
            go_wp2_with fail
            clear cc0 ff0 cc1 ff1 cc2 ff2 cc3 ff3 cc4 ff4 cc5 ff5 cc6 ff6
            obtain ⟨y26, hY26, hp26, hk26, hs26, hb26⟩ := store7 (W := y25.drewN m26) (.int .i64 q.hor) (.slice Qs q.stops.length Qs_) (.slice Qp q.paths.length Qp_) (.slice Qd q.doors.length Qd_) (.slice Qr q.routes.length Qr_) (.slice Qt q.trips.length Qt_) (.slice Qh q.hazs.length Qh_) hh26
            rw [hY26]
            clear hY26 hh26
            have HB26 := Lib.hid (hb26 _ _ (HPA25.out) (below_drewN HB25.out m26))
            have HG26 := Lib.hid (HG25.out.keep hs26 fun b _ hP => hk26 b hP.1)
            have HA26 := Lib.hid hp26
            have HAq26 := Lib.hid (show y26.heap[y19.heap.size]? = some (.cells #[.int .i64 q.hor, q.vs, q.vp, q.vd, q.vr, q.vt, q.vh] 29 (0, 0)) by obtain ⟨e1, e2, e3, e4, e5, e6⟩ := HFq.out; rw [e1, e2, e3, e4, e5, e6]; exact hp26)
            have HPA26 := HPA25
            have HF26 := Lib.hid ((hk26 w13.heap.size (HNE24.out.symm)).trans HF25.out)
            have HPB26 := HPB25
            clear hp26 hk26 hs26 hb26
            show _ ∧ _
            refine ⟨HB26.out, ?_⟩
            refine goon_all [16] (by kernel_rfl) (by decide) (fun i hi => ?_)
            simp only [List.mem_cons, List.not_mem_nil, or_false] at hi
            subst hi
            refine hOp_keeps (by rfl) rfl (fun m27 => ?_)
            have hh27 := HF26.out
            have cc0 : y26.cell? ⟨w13.heap.size, 0, none⟩ = some (.int .i64 0) := Lib.cell_of_heap hh27 0
            have ff0 : y26.frozen? ⟨w13.heap.size, 0, none⟩ = false := Lib.frozen_of_heap hh27 0
            have cc1 : y26.cell? ⟨w13.heap.size, 1, none⟩ = some (.int .i64 0) := Lib.cell_of_heap hh27 1
            have ff1 : y26.frozen? ⟨w13.heap.size, 1, none⟩ = false := Lib.frozen_of_heap hh27 1
            have cc2 : y26.cell? ⟨w13.heap.size, 2, none⟩ = some (.int .i64 0) := Lib.cell_of_heap hh27 2
            have ff2 : y26.frozen? ⟨w13.heap.size, 2, none⟩ = false := Lib.frozen_of_heap hh27 2
            go_wp2_with fail
            clear cc0 ff0 cc1 ff1 cc2 ff2
            obtain ⟨y27, hY27, hp27, hk27, hs27, hb27⟩ := store3 (W := y26.drewN m27) (.int .i64 fx) (.int .i64 g2) (.int .i64 g3) hh27
            rw [hY27]
            clear hY27 hh27
            have HB27 := Lib.hid (hb27 _ _ (HPB26.out) (below_drewN HB26.out m27))
            have HG27 := Lib.hid (HG26.out.keep hs27 fun b _ hP => hk27 b hP.2)
            have HF27 := Lib.hid hp27
            have HPB27 := HPB26
            have HA27 := Lib.hid ((hk27 y19.heap.size (HNE24.out)).trans HA26.out)
            have HPA27 := HPA26
            have HAq27 := Lib.hid ((hk27 y19.heap.size (HNE24.out)).trans HAq26.out)
            clear hp27 hk27 hs27 hb27
            show _ ∧ _
            refine ⟨HB27.out, ?_⟩
            refine goon_end (by kernel_rfl) (fun mz => ?_)
            go_wp2_with fail
            go_meet
            case rel => exact ⟨q, y19.heap.size, w13.heap.size, rfl, rfl, below_drewN HB27.out mz, HQD.out, (HG27.out.below_ (below_drewN (Below.refl _ _) mz)).mono fun _ _ => trivial, HAq27.out, HF27.out⟩
      case rest =>
        obtain ⟨q, pa, pb, rfl, rfl, hbq, hqd, hgq, hA, hF⟩ := hcut
        have HBq := Lib.hid (HBw13.out.trans (hbq.mono HBw13.out.size))
        have HQD := Lib.hid hqd
        clear hbq hqd
        obtain ⟨fq0, fq1, fq2⟩ : wc.cell? ⟨pb, 0, none⟩ = some (.int .i64 fx) ∧ wc.cell? ⟨pb, 1, none⟩ = some (.int .i64 g2) ∧ wc.cell? ⟨pb, 2, none⟩ = some (.int .i64 g3) := ⟨Lib.cell_of_heap hF 0, Lib.cell_of_heap hF 1, Lib.cell_of_heap hF 2⟩
        by_cases hj0 : j = 0
        · have hz := HTW2.out.1 hj0
          injection hz with hz1 hz2
          injection hz2 with hz2 hz3 hz4
          subst hz2 hz3 hz4
          have q1 : ((j : Int) == 0) = true := beq_iff_eq.2 (by omega)
          have q8 := eqb2
          clear hj0
          go_wp2_with fail
          go_ret
          exact ⟨rfl, HBq.out⟩
        · obtain ⟨y9, hz, hz5, hz6⟩ := HTW2.out.2 hj0
          injection hz with hz1 hz2
          injection hz2 with hz2 hz3 hz4
          subst hz1 hz2 hz3 hz4
          have q1 : ((j : Int) == 0) = false := beq_eq_false_iff_ne.2 (by omega)
          have q8 := fe0
          have hcz : checkD q.d = 0 := by rw [HQD.out]; exact hz6
          have hth := fun (wy : World) (h : Below wc.heap.size wc wy) => sthings_any wy q (hgq.below_ h) (may_few hcz)
          rw [show ((thingsD q.d : Nat) : Int) = 1 by rw [HQD.out, hz5]; rfl] at hth
          have hck := fun (wy : World) (h : Below wc.heap.size wc wy) => check_any wy q (hgq.below_ h) (may_few hcz) (check_ok hcz).1 (HT.out.below (HBq.out.trans (h.mono HBq.out.size))) (may_names hcz)
          rw [hcz] at hck
          obtain ⟨Qs, Qs_, Qp, Qp_, Qd, Qd_, Qr, Qr_, Qt, Qt_, Qh, Qh_, eqs, eqp, eqd, eqr, eqt, eqh⟩ := SheetAt.forms hgq
          have Vq : q.v = .agg #[.int .i64 q.hor, .slice Qs q.stops.length Qs_, .slice Qp q.paths.length Qp_, .slice Qd q.doors.length Qd_, .slice Qr q.routes.length Qr_, .slice Qt q.trips.length Qt_, .slice Qh q.hazs.length Qh_] := by
            unfold SheetM.v; rw [eqs, eqp, eqd, eqr, eqt, eqh]
          rw [eqs, eqp, eqd, eqr, eqt, eqh] at hA
          rw [Vq] at hth hck
          have HTH := Lib.hid hth
          have HCK := Lib.hid hck
          have Cq := Lib.hid (fun (wy : World) (h : Below wc.heap.size wc wy) => (show wy.cell? ⟨pa, 0, none⟩ = some (.int .i64 q.hor) ∧ wy.cell? ⟨pa, 1, none⟩ = some (.slice Qs q.stops.length Qs_) ∧ wy.cell? ⟨pa, 2, none⟩ = some (.slice Qp q.paths.length Qp_) ∧ wy.cell? ⟨pa, 3, none⟩ = some (.slice Qd q.doors.length Qd_) ∧ wy.cell? ⟨pa, 4, none⟩ = some (.slice Qr q.routes.length Qr_) ∧ wy.cell? ⟨pa, 5, none⟩ = some (.slice Qt q.trips.length Qt_) ∧ wy.cell? ⟨pa, 6, none⟩ = some (.slice Qh q.hazs.length Qh_) from ⟨(h.cell (p := ⟨pa, 0, none⟩) (Array.getElem?_eq_some_iff.1 hA).1).trans (Lib.cell_of_heap hA 0), (h.cell (p := ⟨pa, 1, none⟩) (Array.getElem?_eq_some_iff.1 hA).1).trans (Lib.cell_of_heap hA 1), (h.cell (p := ⟨pa, 2, none⟩) (Array.getElem?_eq_some_iff.1 hA).1).trans (Lib.cell_of_heap hA 2), (h.cell (p := ⟨pa, 3, none⟩) (Array.getElem?_eq_some_iff.1 hA).1).trans (Lib.cell_of_heap hA 3), (h.cell (p := ⟨pa, 4, none⟩) (Array.getElem?_eq_some_iff.1 hA).1).trans (Lib.cell_of_heap hA 4), (h.cell (p := ⟨pa, 5, none⟩) (Array.getElem?_eq_some_iff.1 hA).1).trans (Lib.cell_of_heap hA 5), (h.cell (p := ⟨pa, 6, none⟩) (Array.getElem?_eq_some_iff.1 hA).1).trans (Lib.cell_of_heap hA 6)⟩))
          clear hth hck hz5 hz6 hcz Vq eqs eqp eqd eqr eqt eqh hA hF hgq hj0
          obtain ⟨a0, a1, a2, a3, a4, a5, a6⟩ := Cq.out wc (Below.refl _ _)
          go_wp2_with fail
          refine (HTH.out wc (Below.refl _ _)).mono ?_
          rintro e w20 ⟨rfl, hb⟩
          have K20 := Lib.hid hb
          clear hb HTH a0 a1 a2 a3 a4 a5 a6 fq0 fq1 fq2
          obtain ⟨a0, a1, a2, a3, a4, a5, a6⟩ := Cq.out w20 K20.out
          go_wp2_with fail
          refine (HCK.out w20 K20.out).mono ?_
          rintro e w21 ⟨rfl, hb⟩
          have HB21 := Lib.hid (HBq.out.trans ((K20.out.trans (hb.mono K20.out.size)).mono HBq.out.size))
          clear hb HCK a0 a1 a2 a3 a4 a5 a6
          go_wp2_with fail
          go_ret
          exact ⟨rfl, HB21.out⟩
end Go.Proofs.YteonefgbdphmiaaGreatDoor
