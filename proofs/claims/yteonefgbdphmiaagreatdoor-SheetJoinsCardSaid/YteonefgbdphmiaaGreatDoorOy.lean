/- The walk of timetablekit.OwnSheet. Printed by wip/bin/genos.py. -/
import Derived.Test.YteonefgbdphmiaaGreatDoorPb
import Derived.Test.YteonefgbdphmiaaGreatDoorOx
import Derived.Deep.CutBlock
import Derived.Deep.CutRange
import Derived.Deep.DeepCutAuto
namespace Go.Proofs.YteonefgbdphmiaaGreatDoor
open Go.RowKit
def R7 (b : Nat) (v0 v1 v2 v3 v4 v5 v6 : Value) (w : World) : Prop := w.cell? ⟨b, 0, none⟩ = some v0 ∧ w.cell? ⟨b, 1, none⟩ = some v1 ∧ w.cell? ⟨b, 2, none⟩ = some v2 ∧ w.cell? ⟨b, 3, none⟩ = some v3 ∧ w.cell? ⟨b, 4, none⟩ = some v4 ∧ w.cell? ⟨b, 5, none⟩ = some v5 ∧ w.cell? ⟨b, 6, none⟩ = some v6
theorem R7.below {B b : Nat} {v0 v1 v2 v3 v4 v5 v6 : Value} {w w' : World} (h : R7 b v0 v1 v2 v3 v4 v5 v6 w) (hb : Below B w w') (hlt : b < B) : R7 b v0 v1 v2 v3 v4 v5 v6 w' := by
  obtain ⟨s0, s1, s2, s3, s4, s5, s6⟩ := h
  exact ⟨(hb.cell (p := ⟨b, 0, none⟩) hlt).trans s0, (hb.cell (p := ⟨b, 1, none⟩) hlt).trans s1, (hb.cell (p := ⟨b, 2, none⟩) hlt).trans s2, (hb.cell (p := ⟨b, 3, none⟩) hlt).trans s3, (hb.cell (p := ⟨b, 4, none⟩) hlt).trans s4, (hb.cell (p := ⟨b, 5, none⟩) hlt).trans s5, (hb.cell (p := ⟨b, 6, none⟩) hlt).trans s6⟩
theorem R7.of {w : World} {b : Nat} {v0 v1 v2 v3 v4 v5 v6 : Value} {t : TypeId} {fr : Nat × Nat} (h : w.heap[b]? = some (.cells #[v0, v1, v2, v3, v4, v5, v6] t fr)) : R7 b v0 v1 v2 v3 v4 v5 v6 w :=
  ⟨Lib.cell_of_heap h 0, Lib.cell_of_heap h 1, Lib.cell_of_heap h 2, Lib.cell_of_heap h 3, Lib.cell_of_heap h 4, Lib.cell_of_heap h 5, Lib.cell_of_heap h 6⟩
/-- What OwnSheet's variable holds ahead of the routes. -/
structure OutS (w1 : World) (x : SheetM) (p : Nat) (vs vp vd vt vh : Value) (wx : World) : Prop where
  lo : w1.heap.size ≤ p
  at_ : wx.heap[p]? = some (.cells #[.int .i64 x.hor, vs, vp, vd, .slice none 0 0, vt, vh] 29 (0, 0))
  stops : Ow nc 1 wx w1.heap.size 9 vs x.stops
  paths : Ow pc 4 wx w1.heap.size 61 vp x.paths
  doors : Ow dc 7 wx w1.heap.size 50 vd x.doors
  trips : Ow trc 5 wx w1.heap.size 52 vt x.trips
  hazs : Ow hc 5 wx w1.heap.size 54 vh x.hazs
  below : Below w1.heap.size w1 wx
theorem OutS.of {w1 w : World} {x : SheetM} {p : Nat} {vs vp vd vt vh : Value} (lo : w1.heap.size ≤ p) (hz : w.heap[p]? = some (.cells #[.int .i64 0, .slice none 0 0, .slice none 0 0, .slice none 0 0, .slice none 0 0, .slice none 0 0, .slice none 0 0] 29 (0, 0)))
    (h1 : Ow nc 1 w w1.heap.size 9 vs x.stops) (h2 : Ow pc 4 w w1.heap.size 61 vp x.paths) (h3 : Ow dc 7 w w1.heap.size 50 vd x.doors) (h5 : Ow trc 5 w w1.heap.size 52 vt x.trips) (h6 : Ow hc 5 w w1.heap.size 54 vh x.hazs) (hb : Below w1.heap.size w1 w) :
    OutS w1 x p vs vp vd vt vh (((((((w.setCell ⟨p, 0, none⟩ (.int .i64 x.hor)).setCell ⟨p, 1, none⟩ vs).setCell ⟨p, 2, none⟩ vp).setCell ⟨p, 3, none⟩ vd).setCell ⟨p, 4, none⟩ (.slice none 0 0)).setCell ⟨p, 5, none⟩ vt).setCell ⟨p, 6, none⟩ vh) := by
  have n1 := ow_ne h1 hz (by decide)
  have n2 := ow_ne h2 hz (by decide)
  have n3 := ow_ne h3 hz (by decide)
  have n5 := ow_ne h5 hz (by decide)
  have n6 := ow_ne h6 hz (by decide)
  have q0 := heap_setCell_same w p 0 _ _ (.int .i64 x.hor) hz
  have q1 := heap_setCell_same _ p 1 _ _ vs q0
  have q2 := heap_setCell_same _ p 2 _ _ vp q1
  have q3 := heap_setCell_same _ p 3 _ _ vd q2
  have q4 := heap_setCell_same _ p 4 _ _ (.slice none 0 0) q3
  have q5 := heap_setCell_same _ p 5 _ _ vt q4
  have q6 := heap_setCell_same _ p 6 _ _ vh q5
  exact ⟨lo, q6, (((((((h1.set n1).set n1).set n1).set n1).set n1).set n1).set n1), (((((((h2.set n2).set n2).set n2).set n2).set n2).set n2).set n2), (((((((h3.set n3).set n3).set n3).set n3).set n3).set n3).set n3), (((((((h5.set n5).set n5).set n5).set n5).set n5).set n5).set n5), (((((((h6.set n6).set n6).set n6).set n6).set n6).set n6).set n6),
    ((((((hb.setCell (p := ⟨p, 0, none⟩) lo _).setCell (p := ⟨p, 1, none⟩) lo _).setCell (p := ⟨p, 2, none⟩) lo _).setCell (p := ⟨p, 3, none⟩) lo _).setCell (p := ⟨p, 4, none⟩) lo _).setCell (p := ⟨p, 5, none⟩) lo _).setCell (p := ⟨p, 6, none⟩) lo _⟩
theorem OutS.drewN {w1 wx : World} {x : SheetM} {p : Nat} {vs vp vd vt vh : Value} (h : OutS w1 x p vs vp vd vt vh wx) (n : Nat) : OutS w1 x p vs vp vd vt vh (wx.drewN n) :=
  ⟨h.lo, h.at_, h.stops, h.paths, h.doors, h.trips, h.hazs, below_drewN h.below n⟩
/-- What OwnSheet leaves: a sheet of its own memory; the rows of stops and trips may be gone on with. -/
structure OwnS (w : World) (x y : SheetM) (w' : World) : Prop where
  d : y.d = x.d
  below : Below w.heap.size w w'
  stops : Ow nc 1 w' w.heap.size 9 y.vs y.stops
  paths : Ow pc 4 w' w.heap.size 61 y.vp y.paths
  doors : Ow dc 7 w' w.heap.size 50 y.vd y.doors
  routes : Sl rc 4 w' y.vr y.routes (fun b => w.heap.size ≤ b ∧ some b ≠ y.vs.ownBlock ∧ some b ≠ y.vt.ownBlock)
  each : ∀ r ∈ y.routes, r.Good w' (fun b => w.heap.size ≤ b ∧ some b ≠ y.vs.ownBlock ∧ some b ≠ y.vt.ownBlock)
  trips : Ow trc 5 w' w.heap.size 52 y.vt y.trips
  hazs : Ow hc 5 w' w.heap.size 54 y.vh y.hazs
  ro : Ow rcN 4 w' w.heap.size 57 y.vr y.routes
  far : ∀ r ∈ y.routes, r.Good w' (fun b => some b ≠ y.vs.ownBlock ∧ some b ≠ y.vp.ownBlock ∧ some b ≠ y.vd.ownBlock ∧ some b ≠ y.vr.ownBlock ∧ some b ≠ y.vt.ownBlock ∧ some b ≠ y.vh.ownBlock)
/-- A slice apart from a row, where the row moves. -/
theorem Sl.moved2 {α : Type} {c : α → List Value} {size : Nat} {w w1 : World} {s v v1 : Value} {l : List α} {Q : Nat → Prop} (h : Sl c size w s l (fun b => Q b ∧ some b ≠ v.ownBlock)) (hg : w.grownBy w1 v.ownBlock) (hm : Moved w v v1) :
    Sl c size w1 s l (fun b => Q b ∧ some b ≠ v1.ownBlock) := by
  obtain ⟨A, cap, e, h1, h2, h3⟩ := h
  refine ⟨A, cap, e, h1, h2, fun hn => ?_⟩
  obtain ⟨b, off, ea, hb, ⟨hQ, hP⟩, hc⟩ := h3 hn
  refine ⟨b, off, ea, Nat.lt_of_lt_of_le hb hg.size, ⟨hQ, ?_⟩, fun i x hx j u hu => (World.cell?_of_block (a := ⟨b, _, none⟩) (hg.block b hb hP)).trans (hc i x hx j u hu)⟩
  rcases hm with hm | ⟨g, hm, hge⟩
  · rw [hm]; exact hP
  · rw [hm]; intro e; injection e with e; omega
theorem RouteM.Good.moved {r : RouteM} {w w1 : World} {v v1 : Value} {Q : Nat → Prop} (h : r.Good w (fun b => Q b ∧ some b ≠ v.ownBlock)) (hg : w.grownBy w1 v.ownBlock) (hm : Moved w v v1) : r.Good w1 (fun b => Q b ∧ some b ≠ v1.ownBlock) :=
  ⟨h.stops.moved2 hg hm, h.rides.moved2 hg hm, h.stays.moved2 hg hm⟩
theorem RouteM.Good.set {r : RouteM} {w : World} {P : Nat → Prop} (h : r.Good w P) {p i : Nat} {u : Value} (hne : ∀ b, P b → b ≠ p) : r.Good (w.setCell ⟨p, i, none⟩ u) P :=
  h.keep (by simp [World.setCell]) fun b _ hP => Below.heap_setCell _ _ _ _ (fun e => hne b hP (by simpa using e))
theorem grown_set {a w : World} {p i : Nat} {u : Value} (h : a.grownBy w (some p)) : a.grownBy (w.setCell ⟨p, i, none⟩ u) (some p) :=
  ⟨h.os, h.tape, h.output, by simpa [World.setCell] using h.size, fun k hk hne => (Below.heap_setCell _ _ _ _ (fun e => hne (by simp [e]))).trans (h.block k hk hne)⟩
theorem grown_below {a w w' : World} {row : Option Nat} {B : Nat} (h : a.grownBy w row) (hb : Below B w w') (hB : a.heap.size ≤ B) : a.grownBy w' row :=
  ⟨hb.os.trans h.os, hb.tape.trans h.tape, hb.output.trans h.output, Nat.le_trans h.size hb.size, fun k hk hne => (hb.block k (Nat.lt_of_lt_of_le hk hB)).trans (h.block k hk hne)⟩
theorem ownRoute1_any (w : World) (r : RouteM) {P : Nat → Prop} (hg : r.Good w P) (h1 : r.stops.length ≤ 1000) (h2 : r.rides.length ≤ 1000) (h3 : r.stays.length ≤ 1000) :
    Calls Tryz.prog 43 #[.agg #[.string (ba r.name), r.vs, r.vr, r.vy]] w fun e w' => ∃ nm vs vr vy ss rr yy, (RouteM.mk nm vs vr vy ss rr yy).d = r.d ∧ e = .returned (.agg #[.string (ba nm), vs, vr, vy]) ∧ (RouteM.mk nm vs vr vy ss rr yy).Good w' (fun b => w.heap.size ≤ b) ∧ Below w.heap.size w w' := by
  refine (ownRoute_any w r hg h1 h2 h3).mono ?_
  rintro e w' ⟨⟨nm, vs, vr, vy, ss, rr, yy⟩, hd, rfl, hg, hb⟩
  exact ⟨nm, vs, vr, vy, ss, rr, yy, hd, rfl, hg, hb⟩
/-- What a round of OwnSheet's loop loads. -/
def RoS (xb p b o : Nat) (v r c0 c1 c2 c3 : Value) (w : World) : Prop := w.cell? ⟨p, 4, none⟩ = some v ∧ w.cell? ⟨xb, 4, none⟩ = some r ∧ w.cell? ⟨b, o, none⟩ = some c0 ∧ w.cell? ⟨b, o + 1, none⟩ = some c1 ∧ w.cell? ⟨b, o + 2, none⟩ = some c2 ∧ w.cell? ⟨b, o + 3, none⟩ = some c3
theorem RoS.keep {xb p b o : Nat} {v r c0 c1 c2 c3 : Value} {w w' : World} (h : RoS xb p b o v r c0 c1 c2 c3 w) (h1 : w'.heap[p]? = w.heap[p]?) (h2 : w'.heap[xb]? = w.heap[xb]?) (h3 : w'.heap[b]? = w.heap[b]?) : RoS xb p b o v r c0 c1 c2 c3 w' := by
  obtain ⟨s0, s1, s2, s3, s4, s5⟩ := h
  exact ⟨(World.cell?_of_block (a := ⟨p, 4, none⟩) h1).trans s0, (World.cell?_of_block (a := ⟨xb, 4, none⟩) h2).trans s1, (World.cell?_of_block (a := ⟨b, o, none⟩) h3).trans s2, (World.cell?_of_block (a := ⟨b, o + 1, none⟩) h3).trans s3, (World.cell?_of_block (a := ⟨b, o + 2, none⟩) h3).trans s4, (World.cell?_of_block (a := ⟨b, o + 3, none⟩) h3).trans s5⟩
/-- The loop's relation: the routes that are there. -/
def RtL (wc : World) (x : SheetM) (p : Nat) (vs vp vd vt vh : Value) (k : Nat) (wr : World) : Prop :=
  ∃ (vr : Value) (rs : List RouteM), rs.map RouteM.d = (x.routes.take k).map RouteM.d ∧ wr.heap[p]? = some (.cells #[.int .i64 x.hor, vs, vp, vd, vr, vt, vh] 29 (0, 0)) ∧ Ow rcN 4 wr wc.heap.size 57 vr rs ∧ (∀ r ∈ rs, r.Good wr (fun b => wc.heap.size ≤ b ∧ some b ≠ vr.ownBlock)) ∧ wc.grownBy wr (some p)
theorem RtL.drewN {wc : World} {x : SheetM} {p : Nat} {vs vp vd vt vh : Value} {k : Nat} {wr : World} (h : RtL wc x p vs vp vd vt vh k wr) (n : Nat) : RtL wc x p vs vp vd vt vh k (wr.drewN n) := by
  obtain ⟨vr, rs, h1, h2, h3, h4, h5⟩ := h
  exact ⟨vr, rs, h1, h2, h3.drewN n, fun r hr => (h4 r hr).keep (Nat.le_refl _) fun _ _ _ => rfl, grown_drewN h5 n⟩
theorem info_route : (Tryz.prog.info? 57).map (fun i => (i.zero, i.size, i.bytes)) = some (some (.agg #[.string ByteArray.empty, .slice none 0 0, .slice none 0 0, .slice none 0 0]), 4, 88) := by kernel_rfl
set_option maxHeartbeats 8000000 in
set_option maxRecDepth 100000 in
theorem ownSheet_any (w : World) (x : SheetM) {P : Nat → Prop} (hg : x.Good w P) (hf : x.Few) :
    Calls Tryz.prog 17 #[x.v] w fun e w' => ∃ y : SheetM, e = .returned y.v ∧ OwnS w x y w' := by
  obtain ⟨i0, hi0, hz0, hz1, hz2⟩ := info_parts info_route
  obtain ⟨As, cs, Ap, cp, Ad, cd, Ar, cr, At, ct, Ah, ch, es, ep, ed, er, et, eh⟩ := SheetAt.forms hg
  have n1 := hf.stops
  have n2 := hf.paths
  have n3 := hf.doors
  have n4 := hf.routes
  have n5 := hf.trips
  have n6 := hf.hazs
  obtain ⟨w1, hw1⟩ : ∃ w1, (w.alloc (.cells #[.int .i64 x.hor, .slice As x.stops.length cs, .slice Ap x.paths.length cp, .slice Ad x.doors.length cd, .slice Ar x.routes.length cr, .slice At x.trips.length ct, .slice Ah x.hazs.length ch] 29)).alloc (.cells #[.int .i64 0, .slice none 0 0, .slice none 0 0, .slice none 0 0, .slice none 0 0, .slice none 0 0, .slice none 0 0] 29) = w1 := ⟨_, rfl⟩
  have hb1 : Below w.heap.size w w1 := by rw [← hw1]; exact ((Below.refl _ _).alloc (Nat.le_refl _) _).alloc (by simp) _
  have hSw : R7 w.heap.size (.int .i64 x.hor) (.slice As x.stops.length cs) (.slice Ap x.paths.length cp) (.slice Ad x.doors.length cd) (.slice Ar x.routes.length cr) (.slice At x.trips.length ct) (.slice Ah x.hazs.length ch) w1 := by
    rw [← hw1]
    refine R7.of (t := 29) (fr := (0, 0)) ?_
    rw [heap_alloc_old _ _ (by simp)]; exact heap_alloc_new _ _
  have hR : w1.heap[w.heap.size + 1]? = some (.cells #[.int .i64 0, .slice none 0 0, .slice none 0 0, .slice none 0 0, .slice none 0 0, .slice none 0 0, .slice none 0 0] 29 (0, 0)) := by
    rw [← hw1]
    have := heap_alloc_new (w.alloc (.cells #[.int .i64 x.hor, .slice As x.stops.length cs, .slice Ap x.paths.length cp, .slice Ad x.doors.length cd, .slice Ar x.routes.length cr, .slice At x.trips.length ct, .slice Ah x.hazs.length ch] 29)) (.cells #[.int .i64 0, .slice none 0 0, .slice none 0 0, .slice none 0 0, .slice none 0 0, .slice none 0 0, .slice none 0 0] 29)
    simpa using this
  have HB1 := Lib.hid hb1
  have HR1 := Lib.hid hR
  have HLT := Lib.hid (show w.heap.size + 1 < w1.heap.size by rw [← hw1]; simp)
  have HG1 := Lib.hid (hg.below_ hb1)
  have HC1 := Lib.hid fun wy (hb : Below w1.heap.size w1 wy) => es ▸ nown_any wy x.vs x.stops (HG1.out.below_ hb).stops (by omega)
  have HC2 := Lib.hid fun wy (hb : Below w1.heap.size w1 wy) => ep ▸ own_path wy x.vp x.paths (HG1.out.below_ hb).paths (by omega)
  have HC3 := Lib.hid fun wy (hb : Below w1.heap.size w1 wy) => ed ▸ own_door wy x.vd x.doors (HG1.out.below_ hb).doors (by omega)
  have HC4 := Lib.hid fun wy (hb : Below w1.heap.size w1 wy) => et ▸ own_trip wy x.vt x.trips (HG1.out.below_ hb).trips (by omega)
  have HC5 := Lib.hid fun wy (hb : Below w1.heap.size w1 wy) => eh ▸ own_haz wy x.vh x.hazs (HG1.out.below_ hb).hazs (by omega)
  have HER := Lib.hid er
  have HF := Lib.hid hf
  have HSW := Lib.hid fun wy (h : Below w1.heap.size w1 wy) => hSw.below h (Nat.lt_of_succ_lt HLT.out)
  unfold SheetM.v
  rw [es, ep, ed, er, et, eh]
  clear hR hb1 hg es ep ed er et eh hf
  go_enter Tryz.func17, Tryz.ntmps17
  go_upto_region 1 with fail
  clear hw1
  go_cut [3] (fun s3 wx => ∃ p vs vp vd vt vh, s3 = .pointer (some ⟨p, 0, none⟩) ∧ OutS w1 x p vs vp vd vt vh wx)
  case first =>
    have HB0 := Lib.hid (Below.refl w1.heap.size w1)
    have HI0 := Lib.hid fun wz (_ : Below w1.heap.size w1 wz) => trivial
    have wv0 : Hid True := Lib.hid trivial
    refine wp_region_goon (R7 w.heap.size (.int .i64 x.hor) (.slice As x.stops.length cs) (.slice Ap x.paths.length cp) (.slice Ad x.doors.length cd) (.slice Ar x.routes.length cr) (.slice At x.trips.length ct) (.slice Ah x.hazs.length ch)) [4, 7, 10, 13, 16, 18] [19] [1, 3, 6, 9, 12, 15] [0, 2, 5, 8, 11, 14, 17] (by kernel_rfl) ?_
    refine goon_walk [0, 1, 2, 3, 5, 6, 8, 9, 11, 12, 14, 15] 8 rfl (by kernel_rfl) (by kernel_rfl) (fun w n h => h) ?_
    repeat (first | (refine wpKind_free (v := ?_) (by rfl) rfl (by rfl) ?_ ?_; rotate_left 1; (focus (intro wy; go_simp; try with_reducible rfl; done)); try simp only [Act.put, List.setIfInBounds_toArray, List.set_cons_zero, List.set_cons_succ]) | (refine wpKind_held (v := ?_) (by rfl) rfl (by rfl) hSw ?_ ?_; rotate_left 1; (focus (intro wy hSy; obtain ⟨s0, s1, s2, s3, s4, s5, s6⟩ := hSy; go_simp; try with_reducible rfl; done)); try simp only [Act.put, List.setIfInBounds_toArray, List.set_cons_zero, List.set_cons_succ]))
    refine wpKind_fin ?_
    refine goon_two 4 18 (by kernel_rfl) ?_ ?_
    · refine hOp_keeps (by rfl) rfl (fun n1 => ?_)
      go_wp2_with fail
      refine (HC1.out (w1.drewN n1) (below_drewN HB0.out n1)).mono ?_
      rintro e wc0 ⟨v0, rfl, ho, hb⟩
      have hBn : Below w1.heap.size w1 wc0 := Below.lift (below_drewN (Below.refl _ _) n1) hb
      have HIc0 := Lib.hid fun wz (h : Below wc0.heap.size wc0 wz) => And.intro (HI0.out wz (hBn.trans (h.mono hBn.size))) ((Ow.below ho h fun q hq => (ho.lt hq).2).lower (show w1.heap.size ≤ (w1.drewN n1).heap.size from HB0.out.size))
      have HBc0 := Lib.hid (HB0.out.trans (hBn.mono HB0.out.size))
      obtain ⟨A0, l0, k0, ev⟩ := ow_form ho
      subst ev
      clear hb hBn ho HI0
      go_wp2_with fail
      show _ ∧ _
      refine ⟨HSW.out wc0 HBc0.out, ?_⟩
      refine goon_two 7 18 (by kernel_rfl) ?_ ?_
      · refine hOp_keeps (by rfl) rfl (fun n1 => ?_)
        go_wp2_with fail
        refine (HC2.out (wc0.drewN n1) (below_drewN HBc0.out n1)).mono ?_
        rintro e wc1 ⟨v1, rfl, ho, hb⟩
        have hBn : Below wc0.heap.size wc0 wc1 := Below.lift (below_drewN (Below.refl _ _) n1) hb
        have HIc1 := Lib.hid fun wz (h : Below wc1.heap.size wc1 wz) => And.intro (HIc0.out wz (hBn.trans (h.mono hBn.size))) ((Ow.below ho h fun q hq => (ho.lt hq).2).lower (show w1.heap.size ≤ (wc0.drewN n1).heap.size from HBc0.out.size))
        have HBc1 := Lib.hid (HBc0.out.trans (hBn.mono HBc0.out.size))
        obtain ⟨A1, l1, k1, ev⟩ := ow_form ho
        subst ev
        clear hb hBn ho HIc0
        go_wp2_with fail
        show _ ∧ _
        refine ⟨HSW.out wc1 HBc1.out, ?_⟩
        refine goon_two 10 18 (by kernel_rfl) ?_ ?_
        · refine hOp_keeps (by rfl) rfl (fun n1 => ?_)
          go_wp2_with fail
          refine (HC3.out (wc1.drewN n1) (below_drewN HBc1.out n1)).mono ?_
          rintro e wc2 ⟨v2, rfl, ho, hb⟩
          have hBn : Below wc1.heap.size wc1 wc2 := Below.lift (below_drewN (Below.refl _ _) n1) hb
          have HIc2 := Lib.hid fun wz (h : Below wc2.heap.size wc2 wz) => And.intro (HIc1.out wz (hBn.trans (h.mono hBn.size))) ((Ow.below ho h fun q hq => (ho.lt hq).2).lower (show w1.heap.size ≤ (wc1.drewN n1).heap.size from HBc1.out.size))
          have HBc2 := Lib.hid (HBc1.out.trans (hBn.mono HBc1.out.size))
          obtain ⟨A2, l2, k2, ev⟩ := ow_form ho
          subst ev
          clear hb hBn ho HIc1
          go_wp2_with fail
          show _ ∧ _
          refine ⟨HSW.out wc2 HBc2.out, ?_⟩
          refine goon_two 13 18 (by kernel_rfl) ?_ ?_
          · refine hOp_keeps (by rfl) rfl (fun n1 => ?_)
            go_wp2_with fail
            refine (HC4.out (wc2.drewN n1) (below_drewN HBc2.out n1)).mono ?_
            rintro e wc3 ⟨v3, rfl, ho, hb⟩
            have hBn : Below wc2.heap.size wc2 wc3 := Below.lift (below_drewN (Below.refl _ _) n1) hb
            have HIc3 := Lib.hid fun wz (h : Below wc3.heap.size wc3 wz) => And.intro (HIc2.out wz (hBn.trans (h.mono hBn.size))) ((Ow.below ho h fun q hq => (ho.lt hq).2).lower (show w1.heap.size ≤ (wc2.drewN n1).heap.size from HBc2.out.size))
            have HBc3 := Lib.hid (HBc2.out.trans (hBn.mono HBc2.out.size))
            obtain ⟨A3, l3, k3, ev⟩ := ow_form ho
            subst ev
            clear hb hBn ho HIc2
            go_wp2_with fail
            show _ ∧ _
            refine ⟨HSW.out wc3 HBc3.out, ?_⟩
            refine goon_two 16 18 (by kernel_rfl) ?_ ?_
            · refine hOp_keeps (by rfl) rfl (fun n1 => ?_)
              go_wp2_with fail
              refine (HC5.out (wc3.drewN n1) (below_drewN HBc3.out n1)).mono ?_
              rintro e wc4 ⟨v4, rfl, ho, hb⟩
              have hBn : Below wc3.heap.size wc3 wc4 := Below.lift (below_drewN (Below.refl _ _) n1) hb
              have HIc4 := Lib.hid fun wz (h : Below wc4.heap.size wc4 wz) => And.intro (HIc3.out wz (hBn.trans (h.mono hBn.size))) ((Ow.below ho h fun q hq => (ho.lt hq).2).lower (show w1.heap.size ≤ (wc3.drewN n1).heap.size from HBc3.out.size))
              have HBc4 := Lib.hid (HBc3.out.trans (hBn.mono HBc3.out.size))
              obtain ⟨A4, l4, k4, ev⟩ := ow_form ho
              subst ev
              clear hb hBn ho HIc3
              go_wp2_with fail
              show _ ∧ _
              refine ⟨HSW.out wc4 HBc4.out, ?_⟩
              refine goon_walk [17, 18, 19] 0 rfl (by kernel_rfl) (by kernel_rfl) (fun w n h => h) ?_
              repeat (refine wpKind_free (v := ?_) (by rfl) rfl (by rfl) ?_ ?_; rotate_left 1; (focus (intro wy; go_simp; try with_reducible rfl; done)); try simp only [Act.put, List.setIfInBounds_toArray, List.set_cons_zero, List.set_cons_succ])
              refine wpKind_keeps (by rfl) rfl (fun n1 => ?_)
              go_wp2_with fail
              generalize hwn : World.alloc _ (.cells #[.int .i64 0, .slice none 0 0, .slice none 0 0, .slice none 0 0, .slice none 0 0, .slice none 0 0, .slice none 0 0] 29) = wc4a
              have hBn : Below wc4.heap.size wc4 wc4a := by rw [← hwn]; exact (below_drewN (Below.refl _ _) _).alloc (by exact Nat.le_refl _) _
              have hz : wc4a.heap[wc4.heap.size]? = some (.cells #[.int .i64 0, .slice none 0 0, .slice none 0 0, .slice none 0 0, .slice none 0 0, .slice none 0 0, .slice none 0 0] 29 (0, 0)) := by rw [← hwn]; exact heap_alloc_new (wc4.drewN _) _
              have hlt : wc4.heap.size < wc4a.heap.size := by rw [← hwn]; simp
              have HIc4a := Lib.hid fun wz (h : Below wc4a.heap.size wc4a wz) => And.intro (HIc4.out wz (hBn.trans (h.mono hBn.size))) ((h.block _ hlt).trans hz)
              have HBc4a := Lib.hid (HBc4.out.trans (hBn.mono HBc4.out.size))
              have HP := Lib.hid (show w1.heap.size ≤ wc4.heap.size from HBc4.out.size)
              clear hBn hz hlt hwn HIc4
              show _ ∧ _
              refine ⟨HSW.out wc4a HBc4a.out, ?_⟩
              repeat (refine wpKind_free (v := ?_) (by rfl) rfl (by rfl) ?_ ?_; rotate_left 1; (focus (intro wy; go_simp; try with_reducible rfl; done)); try simp only [Act.put, List.setIfInBounds_toArray, List.set_cons_zero, List.set_cons_succ])
              obtain ⟨⟨⟨⟨⟨⟨_, o0⟩, o1⟩, o2⟩, o3⟩, o4⟩, hz⟩ := HIc4a.out wc4a (Below.refl _ _)
              have x0 : wc4a.cell? ⟨wc4.heap.size, 0, none⟩ = some (.int .i64 0) := Lib.cell_of_heap hz 0
              have f0 : wc4a.frozen? ⟨wc4.heap.size, 0, none⟩ = false := Lib.frozen_of_heap hz 0
              have x1 : wc4a.cell? ⟨wc4.heap.size, 1, none⟩ = some (.slice none 0 0) := Lib.cell_of_heap hz 1
              have f1 : wc4a.frozen? ⟨wc4.heap.size, 1, none⟩ = false := Lib.frozen_of_heap hz 1
              have x2 : wc4a.cell? ⟨wc4.heap.size, 2, none⟩ = some (.slice none 0 0) := Lib.cell_of_heap hz 2
              have f2 : wc4a.frozen? ⟨wc4.heap.size, 2, none⟩ = false := Lib.frozen_of_heap hz 2
              have x3 : wc4a.cell? ⟨wc4.heap.size, 3, none⟩ = some (.slice none 0 0) := Lib.cell_of_heap hz 3
              have f3 : wc4a.frozen? ⟨wc4.heap.size, 3, none⟩ = false := Lib.frozen_of_heap hz 3
              have x4 : wc4a.cell? ⟨wc4.heap.size, 4, none⟩ = some (.slice none 0 0) := Lib.cell_of_heap hz 4
              have f4 : wc4a.frozen? ⟨wc4.heap.size, 4, none⟩ = false := Lib.frozen_of_heap hz 4
              have x5 : wc4a.cell? ⟨wc4.heap.size, 5, none⟩ = some (.slice none 0 0) := Lib.cell_of_heap hz 5
              have f5 : wc4a.frozen? ⟨wc4.heap.size, 5, none⟩ = false := Lib.frozen_of_heap hz 5
              have x6 : wc4a.cell? ⟨wc4.heap.size, 6, none⟩ = some (.slice none 0 0) := Lib.cell_of_heap hz 6
              have f6 : wc4a.frozen? ⟨wc4.heap.size, 6, none⟩ = false := Lib.frozen_of_heap hz 6
              refine wpKind_serial (by rfl) rfl (fun n2 => ?_)
              have HO := Lib.hid (OutS.of (w := wc4a.drewN n2) (x := x) HP.out hz (o0.drewN n2) (o1.drewN n2) (o2.drewN n2) (o3.drewN n2) (o4.drewN n2) (below_drewN HBc4a.out n2))
              clear o0 o1 o2 o3 o4 hz HIc4a
              go_wp2_with fail
              clear x0 f0 x1 f1 x2 f2 x3 f3 x4 f4 x5 f5 x6 f6
              show wpKind _ _ _ _ _ _ _ _ _
              refine wpKind_fin ?_
              refine goon_end (by kernel_rfl) (fun n3 => ?_)
              go_wp2_with fail
              go_meet
              case rel => exact ⟨_, _, _, _, _, _, rfl, HO.out.drewN n3⟩
            · refine hOp_keeps (by rfl) rfl (fun n1 => ?_)
              go_wp2_with fail
              generalize hwn : World.alloc _ (.cells #[.int .i64 0, .slice none 0 0, .slice none 0 0, .slice none 0 0, .slice none 0 0, .slice none 0 0, .slice none 0 0] 29) = wa4
              have hBn : Below wc3.heap.size wc3 wa4 := by rw [← hwn]; exact (below_drewN (Below.refl _ _) _).alloc (by exact Nat.le_refl _) _
              have hz : wa4.heap[wc3.heap.size]? = some (.cells #[.int .i64 0, .slice none 0 0, .slice none 0 0, .slice none 0 0, .slice none 0 0, .slice none 0 0, .slice none 0 0] 29 (0, 0)) := by rw [← hwn]; exact heap_alloc_new (wc3.drewN _) _
              have hlt : wc3.heap.size < wa4.heap.size := by rw [← hwn]; simp
              have HIa4 := Lib.hid fun wz (h : Below wa4.heap.size wa4 wz) => And.intro (HIc3.out wz (hBn.trans (h.mono hBn.size))) ((h.block _ hlt).trans hz)
              have HBa4 := Lib.hid (HBc3.out.trans (hBn.mono HBc3.out.size))
              have HP := Lib.hid (show w1.heap.size ≤ wc3.heap.size from HBc3.out.size)
              clear hBn hz hlt hwn HIc3
              show _ ∧ _
              refine ⟨HSW.out wa4 HBa4.out, ?_⟩
              refine goon_walk [16, 17, 19] 0 rfl (by kernel_rfl) (by kernel_rfl) (fun w n h => h) ?_
              repeat (refine wpKind_free (v := ?_) (by rfl) rfl (by rfl) ?_ ?_; rotate_left 1; (focus (intro wy; go_simp; try with_reducible rfl; done)); try simp only [Act.put, List.setIfInBounds_toArray, List.set_cons_zero, List.set_cons_succ])
              refine wpKind_keeps (by rfl) rfl (fun n1 => ?_)
              go_wp2_with fail
              refine (HC5.out (wa4.drewN n1) (below_drewN HBa4.out n1)).mono ?_
              rintro e wb4_4 ⟨v4, rfl, ho, hb⟩
              have hBn : Below wa4.heap.size wa4 wb4_4 := Below.lift (below_drewN (Below.refl _ _) n1) hb
              have HIb4_4 := Lib.hid fun wz (h : Below wb4_4.heap.size wb4_4 wz) => And.intro (HIa4.out wz (hBn.trans (h.mono hBn.size))) ((Ow.below ho h fun q hq => (ho.lt hq).2).lower (show w1.heap.size ≤ (wa4.drewN n1).heap.size from HBa4.out.size))
              have HBb4_4 := Lib.hid (HBa4.out.trans (hBn.mono HBa4.out.size))
              obtain ⟨A4, l4, k4, ev⟩ := ow_form ho
              subst ev
              clear hb hBn ho HIa4
              go_wp2_with fail
              show _ ∧ _
              refine ⟨HSW.out wb4_4 HBb4_4.out, ?_⟩
              repeat (refine wpKind_free (v := ?_) (by rfl) rfl (by rfl) ?_ ?_; rotate_left 1; (focus (intro wy; go_simp; try with_reducible rfl; done)); try simp only [Act.put, List.setIfInBounds_toArray, List.set_cons_zero, List.set_cons_succ])
              obtain ⟨⟨⟨⟨⟨⟨_, o0⟩, o1⟩, o2⟩, o3⟩, hz⟩, o4⟩ := HIb4_4.out wb4_4 (Below.refl _ _)
              have x0 : wb4_4.cell? ⟨wc3.heap.size, 0, none⟩ = some (.int .i64 0) := Lib.cell_of_heap hz 0
              have f0 : wb4_4.frozen? ⟨wc3.heap.size, 0, none⟩ = false := Lib.frozen_of_heap hz 0
              have x1 : wb4_4.cell? ⟨wc3.heap.size, 1, none⟩ = some (.slice none 0 0) := Lib.cell_of_heap hz 1
              have f1 : wb4_4.frozen? ⟨wc3.heap.size, 1, none⟩ = false := Lib.frozen_of_heap hz 1
              have x2 : wb4_4.cell? ⟨wc3.heap.size, 2, none⟩ = some (.slice none 0 0) := Lib.cell_of_heap hz 2
              have f2 : wb4_4.frozen? ⟨wc3.heap.size, 2, none⟩ = false := Lib.frozen_of_heap hz 2
              have x3 : wb4_4.cell? ⟨wc3.heap.size, 3, none⟩ = some (.slice none 0 0) := Lib.cell_of_heap hz 3
              have f3 : wb4_4.frozen? ⟨wc3.heap.size, 3, none⟩ = false := Lib.frozen_of_heap hz 3
              have x4 : wb4_4.cell? ⟨wc3.heap.size, 4, none⟩ = some (.slice none 0 0) := Lib.cell_of_heap hz 4
              have f4 : wb4_4.frozen? ⟨wc3.heap.size, 4, none⟩ = false := Lib.frozen_of_heap hz 4
              have x5 : wb4_4.cell? ⟨wc3.heap.size, 5, none⟩ = some (.slice none 0 0) := Lib.cell_of_heap hz 5
              have f5 : wb4_4.frozen? ⟨wc3.heap.size, 5, none⟩ = false := Lib.frozen_of_heap hz 5
              have x6 : wb4_4.cell? ⟨wc3.heap.size, 6, none⟩ = some (.slice none 0 0) := Lib.cell_of_heap hz 6
              have f6 : wb4_4.frozen? ⟨wc3.heap.size, 6, none⟩ = false := Lib.frozen_of_heap hz 6
              refine wpKind_serial (by rfl) rfl (fun n2 => ?_)
              have HO := Lib.hid (OutS.of (w := wb4_4.drewN n2) (x := x) HP.out hz (o0.drewN n2) (o1.drewN n2) (o2.drewN n2) (o3.drewN n2) (o4.drewN n2) (below_drewN HBb4_4.out n2))
              clear o0 o1 o2 o3 o4 hz HIb4_4
              go_wp2_with fail
              clear x0 f0 x1 f1 x2 f2 x3 f3 x4 f4 x5 f5 x6 f6
              show wpKind _ _ _ _ _ _ _ _ _
              refine wpKind_fin ?_
              refine goon_end (by kernel_rfl) (fun n3 => ?_)
              go_wp2_with fail
              go_meet
              case rel => exact ⟨_, _, _, _, _, _, rfl, HO.out.drewN n3⟩
          · refine hOp_keeps (by rfl) rfl (fun n1 => ?_)
            go_wp2_with fail
            generalize hwn : World.alloc _ (.cells #[.int .i64 0, .slice none 0 0, .slice none 0 0, .slice none 0 0, .slice none 0 0, .slice none 0 0, .slice none 0 0] 29) = wa3
            have hBn : Below wc2.heap.size wc2 wa3 := by rw [← hwn]; exact (below_drewN (Below.refl _ _) _).alloc (by exact Nat.le_refl _) _
            have hz : wa3.heap[wc2.heap.size]? = some (.cells #[.int .i64 0, .slice none 0 0, .slice none 0 0, .slice none 0 0, .slice none 0 0, .slice none 0 0, .slice none 0 0] 29 (0, 0)) := by rw [← hwn]; exact heap_alloc_new (wc2.drewN _) _
            have hlt : wc2.heap.size < wa3.heap.size := by rw [← hwn]; simp
            have HIa3 := Lib.hid fun wz (h : Below wa3.heap.size wa3 wz) => And.intro (HIc2.out wz (hBn.trans (h.mono hBn.size))) ((h.block _ hlt).trans hz)
            have HBa3 := Lib.hid (HBc2.out.trans (hBn.mono HBc2.out.size))
            have HP := Lib.hid (show w1.heap.size ≤ wc2.heap.size from HBc2.out.size)
            clear hBn hz hlt hwn HIc2
            show _ ∧ _
            refine ⟨HSW.out wa3 HBa3.out, ?_⟩
            refine goon_walk [13, 16, 17, 19] 0 rfl (by kernel_rfl) (by kernel_rfl) (fun w n h => h) ?_
            repeat (refine wpKind_free (v := ?_) (by rfl) rfl (by rfl) ?_ ?_; rotate_left 1; (focus (intro wy; go_simp; try with_reducible rfl; done)); try simp only [Act.put, List.setIfInBounds_toArray, List.set_cons_zero, List.set_cons_succ])
            refine wpKind_keeps (by rfl) rfl (fun n1 => ?_)
            go_wp2_with fail
            refine (HC4.out (wa3.drewN n1) (below_drewN HBa3.out n1)).mono ?_
            rintro e wb3_3 ⟨v3, rfl, ho, hb⟩
            have hBn : Below wa3.heap.size wa3 wb3_3 := Below.lift (below_drewN (Below.refl _ _) n1) hb
            have HIb3_3 := Lib.hid fun wz (h : Below wb3_3.heap.size wb3_3 wz) => And.intro (HIa3.out wz (hBn.trans (h.mono hBn.size))) ((Ow.below ho h fun q hq => (ho.lt hq).2).lower (show w1.heap.size ≤ (wa3.drewN n1).heap.size from HBa3.out.size))
            have HBb3_3 := Lib.hid (HBa3.out.trans (hBn.mono HBa3.out.size))
            obtain ⟨A3, l3, k3, ev⟩ := ow_form ho
            subst ev
            clear hb hBn ho HIa3
            go_wp2_with fail
            show _ ∧ _
            refine ⟨HSW.out wb3_3 HBb3_3.out, ?_⟩
            repeat (refine wpKind_free (v := ?_) (by rfl) rfl (by rfl) ?_ ?_; rotate_left 1; (focus (intro wy; go_simp; try with_reducible rfl; done)); try simp only [Act.put, List.setIfInBounds_toArray, List.set_cons_zero, List.set_cons_succ])
            refine wpKind_keeps (by rfl) rfl (fun n1 => ?_)
            go_wp2_with fail
            refine (HC5.out (wb3_3.drewN n1) (below_drewN HBb3_3.out n1)).mono ?_
            rintro e wb3_4 ⟨v4, rfl, ho, hb⟩
            have hBn : Below wb3_3.heap.size wb3_3 wb3_4 := Below.lift (below_drewN (Below.refl _ _) n1) hb
            have HIb3_4 := Lib.hid fun wz (h : Below wb3_4.heap.size wb3_4 wz) => And.intro (HIb3_3.out wz (hBn.trans (h.mono hBn.size))) ((Ow.below ho h fun q hq => (ho.lt hq).2).lower (show w1.heap.size ≤ (wb3_3.drewN n1).heap.size from HBb3_3.out.size))
            have HBb3_4 := Lib.hid (HBb3_3.out.trans (hBn.mono HBb3_3.out.size))
            obtain ⟨A4, l4, k4, ev⟩ := ow_form ho
            subst ev
            clear hb hBn ho HIb3_3
            go_wp2_with fail
            show _ ∧ _
            refine ⟨HSW.out wb3_4 HBb3_4.out, ?_⟩
            repeat (refine wpKind_free (v := ?_) (by rfl) rfl (by rfl) ?_ ?_; rotate_left 1; (focus (intro wy; go_simp; try with_reducible rfl; done)); try simp only [Act.put, List.setIfInBounds_toArray, List.set_cons_zero, List.set_cons_succ])
            obtain ⟨⟨⟨⟨⟨⟨_, o0⟩, o1⟩, o2⟩, hz⟩, o3⟩, o4⟩ := HIb3_4.out wb3_4 (Below.refl _ _)
            have x0 : wb3_4.cell? ⟨wc2.heap.size, 0, none⟩ = some (.int .i64 0) := Lib.cell_of_heap hz 0
            have f0 : wb3_4.frozen? ⟨wc2.heap.size, 0, none⟩ = false := Lib.frozen_of_heap hz 0
            have x1 : wb3_4.cell? ⟨wc2.heap.size, 1, none⟩ = some (.slice none 0 0) := Lib.cell_of_heap hz 1
            have f1 : wb3_4.frozen? ⟨wc2.heap.size, 1, none⟩ = false := Lib.frozen_of_heap hz 1
            have x2 : wb3_4.cell? ⟨wc2.heap.size, 2, none⟩ = some (.slice none 0 0) := Lib.cell_of_heap hz 2
            have f2 : wb3_4.frozen? ⟨wc2.heap.size, 2, none⟩ = false := Lib.frozen_of_heap hz 2
            have x3 : wb3_4.cell? ⟨wc2.heap.size, 3, none⟩ = some (.slice none 0 0) := Lib.cell_of_heap hz 3
            have f3 : wb3_4.frozen? ⟨wc2.heap.size, 3, none⟩ = false := Lib.frozen_of_heap hz 3
            have x4 : wb3_4.cell? ⟨wc2.heap.size, 4, none⟩ = some (.slice none 0 0) := Lib.cell_of_heap hz 4
            have f4 : wb3_4.frozen? ⟨wc2.heap.size, 4, none⟩ = false := Lib.frozen_of_heap hz 4
            have x5 : wb3_4.cell? ⟨wc2.heap.size, 5, none⟩ = some (.slice none 0 0) := Lib.cell_of_heap hz 5
            have f5 : wb3_4.frozen? ⟨wc2.heap.size, 5, none⟩ = false := Lib.frozen_of_heap hz 5
            have x6 : wb3_4.cell? ⟨wc2.heap.size, 6, none⟩ = some (.slice none 0 0) := Lib.cell_of_heap hz 6
            have f6 : wb3_4.frozen? ⟨wc2.heap.size, 6, none⟩ = false := Lib.frozen_of_heap hz 6
            refine wpKind_serial (by rfl) rfl (fun n2 => ?_)
            have HO := Lib.hid (OutS.of (w := wb3_4.drewN n2) (x := x) HP.out hz (o0.drewN n2) (o1.drewN n2) (o2.drewN n2) (o3.drewN n2) (o4.drewN n2) (below_drewN HBb3_4.out n2))
            clear o0 o1 o2 o3 o4 hz HIb3_4
            go_wp2_with fail
            clear x0 f0 x1 f1 x2 f2 x3 f3 x4 f4 x5 f5 x6 f6
            show wpKind _ _ _ _ _ _ _ _ _
            refine wpKind_fin ?_
            refine goon_end (by kernel_rfl) (fun n3 => ?_)
            go_wp2_with fail
            go_meet
            case rel => exact ⟨_, _, _, _, _, _, rfl, HO.out.drewN n3⟩
        · refine hOp_keeps (by rfl) rfl (fun n1 => ?_)
          go_wp2_with fail
          generalize hwn : World.alloc _ (.cells #[.int .i64 0, .slice none 0 0, .slice none 0 0, .slice none 0 0, .slice none 0 0, .slice none 0 0, .slice none 0 0] 29) = wa2
          have hBn : Below wc1.heap.size wc1 wa2 := by rw [← hwn]; exact (below_drewN (Below.refl _ _) _).alloc (by exact Nat.le_refl _) _
          have hz : wa2.heap[wc1.heap.size]? = some (.cells #[.int .i64 0, .slice none 0 0, .slice none 0 0, .slice none 0 0, .slice none 0 0, .slice none 0 0, .slice none 0 0] 29 (0, 0)) := by rw [← hwn]; exact heap_alloc_new (wc1.drewN _) _
          have hlt : wc1.heap.size < wa2.heap.size := by rw [← hwn]; simp
          have HIa2 := Lib.hid fun wz (h : Below wa2.heap.size wa2 wz) => And.intro (HIc1.out wz (hBn.trans (h.mono hBn.size))) ((h.block _ hlt).trans hz)
          have HBa2 := Lib.hid (HBc1.out.trans (hBn.mono HBc1.out.size))
          have HP := Lib.hid (show w1.heap.size ≤ wc1.heap.size from HBc1.out.size)
          clear hBn hz hlt hwn HIc1
          show _ ∧ _
          refine ⟨HSW.out wa2 HBa2.out, ?_⟩
          refine goon_walk [10, 13, 16, 17, 19] 0 rfl (by kernel_rfl) (by kernel_rfl) (fun w n h => h) ?_
          repeat (refine wpKind_free (v := ?_) (by rfl) rfl (by rfl) ?_ ?_; rotate_left 1; (focus (intro wy; go_simp; try with_reducible rfl; done)); try simp only [Act.put, List.setIfInBounds_toArray, List.set_cons_zero, List.set_cons_succ])
          refine wpKind_keeps (by rfl) rfl (fun n1 => ?_)
          go_wp2_with fail
          refine (HC3.out (wa2.drewN n1) (below_drewN HBa2.out n1)).mono ?_
          rintro e wb2_2 ⟨v2, rfl, ho, hb⟩
          have hBn : Below wa2.heap.size wa2 wb2_2 := Below.lift (below_drewN (Below.refl _ _) n1) hb
          have HIb2_2 := Lib.hid fun wz (h : Below wb2_2.heap.size wb2_2 wz) => And.intro (HIa2.out wz (hBn.trans (h.mono hBn.size))) ((Ow.below ho h fun q hq => (ho.lt hq).2).lower (show w1.heap.size ≤ (wa2.drewN n1).heap.size from HBa2.out.size))
          have HBb2_2 := Lib.hid (HBa2.out.trans (hBn.mono HBa2.out.size))
          obtain ⟨A2, l2, k2, ev⟩ := ow_form ho
          subst ev
          clear hb hBn ho HIa2
          go_wp2_with fail
          show _ ∧ _
          refine ⟨HSW.out wb2_2 HBb2_2.out, ?_⟩
          repeat (refine wpKind_free (v := ?_) (by rfl) rfl (by rfl) ?_ ?_; rotate_left 1; (focus (intro wy; go_simp; try with_reducible rfl; done)); try simp only [Act.put, List.setIfInBounds_toArray, List.set_cons_zero, List.set_cons_succ])
          refine wpKind_keeps (by rfl) rfl (fun n1 => ?_)
          go_wp2_with fail
          refine (HC4.out (wb2_2.drewN n1) (below_drewN HBb2_2.out n1)).mono ?_
          rintro e wb2_3 ⟨v3, rfl, ho, hb⟩
          have hBn : Below wb2_2.heap.size wb2_2 wb2_3 := Below.lift (below_drewN (Below.refl _ _) n1) hb
          have HIb2_3 := Lib.hid fun wz (h : Below wb2_3.heap.size wb2_3 wz) => And.intro (HIb2_2.out wz (hBn.trans (h.mono hBn.size))) ((Ow.below ho h fun q hq => (ho.lt hq).2).lower (show w1.heap.size ≤ (wb2_2.drewN n1).heap.size from HBb2_2.out.size))
          have HBb2_3 := Lib.hid (HBb2_2.out.trans (hBn.mono HBb2_2.out.size))
          obtain ⟨A3, l3, k3, ev⟩ := ow_form ho
          subst ev
          clear hb hBn ho HIb2_2
          go_wp2_with fail
          show _ ∧ _
          refine ⟨HSW.out wb2_3 HBb2_3.out, ?_⟩
          repeat (refine wpKind_free (v := ?_) (by rfl) rfl (by rfl) ?_ ?_; rotate_left 1; (focus (intro wy; go_simp; try with_reducible rfl; done)); try simp only [Act.put, List.setIfInBounds_toArray, List.set_cons_zero, List.set_cons_succ])
          refine wpKind_keeps (by rfl) rfl (fun n1 => ?_)
          go_wp2_with fail
          refine (HC5.out (wb2_3.drewN n1) (below_drewN HBb2_3.out n1)).mono ?_
          rintro e wb2_4 ⟨v4, rfl, ho, hb⟩
          have hBn : Below wb2_3.heap.size wb2_3 wb2_4 := Below.lift (below_drewN (Below.refl _ _) n1) hb
          have HIb2_4 := Lib.hid fun wz (h : Below wb2_4.heap.size wb2_4 wz) => And.intro (HIb2_3.out wz (hBn.trans (h.mono hBn.size))) ((Ow.below ho h fun q hq => (ho.lt hq).2).lower (show w1.heap.size ≤ (wb2_3.drewN n1).heap.size from HBb2_3.out.size))
          have HBb2_4 := Lib.hid (HBb2_3.out.trans (hBn.mono HBb2_3.out.size))
          obtain ⟨A4, l4, k4, ev⟩ := ow_form ho
          subst ev
          clear hb hBn ho HIb2_3
          go_wp2_with fail
          show _ ∧ _
          refine ⟨HSW.out wb2_4 HBb2_4.out, ?_⟩
          repeat (refine wpKind_free (v := ?_) (by rfl) rfl (by rfl) ?_ ?_; rotate_left 1; (focus (intro wy; go_simp; try with_reducible rfl; done)); try simp only [Act.put, List.setIfInBounds_toArray, List.set_cons_zero, List.set_cons_succ])
          obtain ⟨⟨⟨⟨⟨⟨_, o0⟩, o1⟩, hz⟩, o2⟩, o3⟩, o4⟩ := HIb2_4.out wb2_4 (Below.refl _ _)
          have x0 : wb2_4.cell? ⟨wc1.heap.size, 0, none⟩ = some (.int .i64 0) := Lib.cell_of_heap hz 0
          have f0 : wb2_4.frozen? ⟨wc1.heap.size, 0, none⟩ = false := Lib.frozen_of_heap hz 0
          have x1 : wb2_4.cell? ⟨wc1.heap.size, 1, none⟩ = some (.slice none 0 0) := Lib.cell_of_heap hz 1
          have f1 : wb2_4.frozen? ⟨wc1.heap.size, 1, none⟩ = false := Lib.frozen_of_heap hz 1
          have x2 : wb2_4.cell? ⟨wc1.heap.size, 2, none⟩ = some (.slice none 0 0) := Lib.cell_of_heap hz 2
          have f2 : wb2_4.frozen? ⟨wc1.heap.size, 2, none⟩ = false := Lib.frozen_of_heap hz 2
          have x3 : wb2_4.cell? ⟨wc1.heap.size, 3, none⟩ = some (.slice none 0 0) := Lib.cell_of_heap hz 3
          have f3 : wb2_4.frozen? ⟨wc1.heap.size, 3, none⟩ = false := Lib.frozen_of_heap hz 3
          have x4 : wb2_4.cell? ⟨wc1.heap.size, 4, none⟩ = some (.slice none 0 0) := Lib.cell_of_heap hz 4
          have f4 : wb2_4.frozen? ⟨wc1.heap.size, 4, none⟩ = false := Lib.frozen_of_heap hz 4
          have x5 : wb2_4.cell? ⟨wc1.heap.size, 5, none⟩ = some (.slice none 0 0) := Lib.cell_of_heap hz 5
          have f5 : wb2_4.frozen? ⟨wc1.heap.size, 5, none⟩ = false := Lib.frozen_of_heap hz 5
          have x6 : wb2_4.cell? ⟨wc1.heap.size, 6, none⟩ = some (.slice none 0 0) := Lib.cell_of_heap hz 6
          have f6 : wb2_4.frozen? ⟨wc1.heap.size, 6, none⟩ = false := Lib.frozen_of_heap hz 6
          refine wpKind_serial (by rfl) rfl (fun n2 => ?_)
          have HO := Lib.hid (OutS.of (w := wb2_4.drewN n2) (x := x) HP.out hz (o0.drewN n2) (o1.drewN n2) (o2.drewN n2) (o3.drewN n2) (o4.drewN n2) (below_drewN HBb2_4.out n2))
          clear o0 o1 o2 o3 o4 hz HIb2_4
          go_wp2_with fail
          clear x0 f0 x1 f1 x2 f2 x3 f3 x4 f4 x5 f5 x6 f6
          show wpKind _ _ _ _ _ _ _ _ _
          refine wpKind_fin ?_
          refine goon_end (by kernel_rfl) (fun n3 => ?_)
          go_wp2_with fail
          go_meet
          case rel => exact ⟨_, _, _, _, _, _, rfl, HO.out.drewN n3⟩
      · refine hOp_keeps (by rfl) rfl (fun n1 => ?_)
        go_wp2_with fail
        generalize hwn : World.alloc _ (.cells #[.int .i64 0, .slice none 0 0, .slice none 0 0, .slice none 0 0, .slice none 0 0, .slice none 0 0, .slice none 0 0] 29) = wa1
        have hBn : Below wc0.heap.size wc0 wa1 := by rw [← hwn]; exact (below_drewN (Below.refl _ _) _).alloc (by exact Nat.le_refl _) _
        have hz : wa1.heap[wc0.heap.size]? = some (.cells #[.int .i64 0, .slice none 0 0, .slice none 0 0, .slice none 0 0, .slice none 0 0, .slice none 0 0, .slice none 0 0] 29 (0, 0)) := by rw [← hwn]; exact heap_alloc_new (wc0.drewN _) _
        have hlt : wc0.heap.size < wa1.heap.size := by rw [← hwn]; simp
        have HIa1 := Lib.hid fun wz (h : Below wa1.heap.size wa1 wz) => And.intro (HIc0.out wz (hBn.trans (h.mono hBn.size))) ((h.block _ hlt).trans hz)
        have HBa1 := Lib.hid (HBc0.out.trans (hBn.mono HBc0.out.size))
        have HP := Lib.hid (show w1.heap.size ≤ wc0.heap.size from HBc0.out.size)
        clear hBn hz hlt hwn HIc0
        show _ ∧ _
        refine ⟨HSW.out wa1 HBa1.out, ?_⟩
        refine goon_walk [7, 10, 13, 16, 17, 19] 0 rfl (by kernel_rfl) (by kernel_rfl) (fun w n h => h) ?_
        repeat (refine wpKind_free (v := ?_) (by rfl) rfl (by rfl) ?_ ?_; rotate_left 1; (focus (intro wy; go_simp; try with_reducible rfl; done)); try simp only [Act.put, List.setIfInBounds_toArray, List.set_cons_zero, List.set_cons_succ])
        refine wpKind_keeps (by rfl) rfl (fun n1 => ?_)
        go_wp2_with fail
        refine (HC2.out (wa1.drewN n1) (below_drewN HBa1.out n1)).mono ?_
        rintro e wb1_1 ⟨v1, rfl, ho, hb⟩
        have hBn : Below wa1.heap.size wa1 wb1_1 := Below.lift (below_drewN (Below.refl _ _) n1) hb
        have HIb1_1 := Lib.hid fun wz (h : Below wb1_1.heap.size wb1_1 wz) => And.intro (HIa1.out wz (hBn.trans (h.mono hBn.size))) ((Ow.below ho h fun q hq => (ho.lt hq).2).lower (show w1.heap.size ≤ (wa1.drewN n1).heap.size from HBa1.out.size))
        have HBb1_1 := Lib.hid (HBa1.out.trans (hBn.mono HBa1.out.size))
        obtain ⟨A1, l1, k1, ev⟩ := ow_form ho
        subst ev
        clear hb hBn ho HIa1
        go_wp2_with fail
        show _ ∧ _
        refine ⟨HSW.out wb1_1 HBb1_1.out, ?_⟩
        repeat (refine wpKind_free (v := ?_) (by rfl) rfl (by rfl) ?_ ?_; rotate_left 1; (focus (intro wy; go_simp; try with_reducible rfl; done)); try simp only [Act.put, List.setIfInBounds_toArray, List.set_cons_zero, List.set_cons_succ])
        refine wpKind_keeps (by rfl) rfl (fun n1 => ?_)
        go_wp2_with fail
        refine (HC3.out (wb1_1.drewN n1) (below_drewN HBb1_1.out n1)).mono ?_
        rintro e wb1_2 ⟨v2, rfl, ho, hb⟩
        have hBn : Below wb1_1.heap.size wb1_1 wb1_2 := Below.lift (below_drewN (Below.refl _ _) n1) hb
        have HIb1_2 := Lib.hid fun wz (h : Below wb1_2.heap.size wb1_2 wz) => And.intro (HIb1_1.out wz (hBn.trans (h.mono hBn.size))) ((Ow.below ho h fun q hq => (ho.lt hq).2).lower (show w1.heap.size ≤ (wb1_1.drewN n1).heap.size from HBb1_1.out.size))
        have HBb1_2 := Lib.hid (HBb1_1.out.trans (hBn.mono HBb1_1.out.size))
        obtain ⟨A2, l2, k2, ev⟩ := ow_form ho
        subst ev
        clear hb hBn ho HIb1_1
        go_wp2_with fail
        show _ ∧ _
        refine ⟨HSW.out wb1_2 HBb1_2.out, ?_⟩
        repeat (refine wpKind_free (v := ?_) (by rfl) rfl (by rfl) ?_ ?_; rotate_left 1; (focus (intro wy; go_simp; try with_reducible rfl; done)); try simp only [Act.put, List.setIfInBounds_toArray, List.set_cons_zero, List.set_cons_succ])
        refine wpKind_keeps (by rfl) rfl (fun n1 => ?_)
        go_wp2_with fail
        refine (HC4.out (wb1_2.drewN n1) (below_drewN HBb1_2.out n1)).mono ?_
        rintro e wb1_3 ⟨v3, rfl, ho, hb⟩
        have hBn : Below wb1_2.heap.size wb1_2 wb1_3 := Below.lift (below_drewN (Below.refl _ _) n1) hb
        have HIb1_3 := Lib.hid fun wz (h : Below wb1_3.heap.size wb1_3 wz) => And.intro (HIb1_2.out wz (hBn.trans (h.mono hBn.size))) ((Ow.below ho h fun q hq => (ho.lt hq).2).lower (show w1.heap.size ≤ (wb1_2.drewN n1).heap.size from HBb1_2.out.size))
        have HBb1_3 := Lib.hid (HBb1_2.out.trans (hBn.mono HBb1_2.out.size))
        obtain ⟨A3, l3, k3, ev⟩ := ow_form ho
        subst ev
        clear hb hBn ho HIb1_2
        go_wp2_with fail
        show _ ∧ _
        refine ⟨HSW.out wb1_3 HBb1_3.out, ?_⟩
        repeat (refine wpKind_free (v := ?_) (by rfl) rfl (by rfl) ?_ ?_; rotate_left 1; (focus (intro wy; go_simp; try with_reducible rfl; done)); try simp only [Act.put, List.setIfInBounds_toArray, List.set_cons_zero, List.set_cons_succ])
        refine wpKind_keeps (by rfl) rfl (fun n1 => ?_)
        go_wp2_with fail
        refine (HC5.out (wb1_3.drewN n1) (below_drewN HBb1_3.out n1)).mono ?_
        rintro e wb1_4 ⟨v4, rfl, ho, hb⟩
        have hBn : Below wb1_3.heap.size wb1_3 wb1_4 := Below.lift (below_drewN (Below.refl _ _) n1) hb
        have HIb1_4 := Lib.hid fun wz (h : Below wb1_4.heap.size wb1_4 wz) => And.intro (HIb1_3.out wz (hBn.trans (h.mono hBn.size))) ((Ow.below ho h fun q hq => (ho.lt hq).2).lower (show w1.heap.size ≤ (wb1_3.drewN n1).heap.size from HBb1_3.out.size))
        have HBb1_4 := Lib.hid (HBb1_3.out.trans (hBn.mono HBb1_3.out.size))
        obtain ⟨A4, l4, k4, ev⟩ := ow_form ho
        subst ev
        clear hb hBn ho HIb1_3
        go_wp2_with fail
        show _ ∧ _
        refine ⟨HSW.out wb1_4 HBb1_4.out, ?_⟩
        repeat (refine wpKind_free (v := ?_) (by rfl) rfl (by rfl) ?_ ?_; rotate_left 1; (focus (intro wy; go_simp; try with_reducible rfl; done)); try simp only [Act.put, List.setIfInBounds_toArray, List.set_cons_zero, List.set_cons_succ])
        obtain ⟨⟨⟨⟨⟨⟨_, o0⟩, hz⟩, o1⟩, o2⟩, o3⟩, o4⟩ := HIb1_4.out wb1_4 (Below.refl _ _)
        have x0 : wb1_4.cell? ⟨wc0.heap.size, 0, none⟩ = some (.int .i64 0) := Lib.cell_of_heap hz 0
        have f0 : wb1_4.frozen? ⟨wc0.heap.size, 0, none⟩ = false := Lib.frozen_of_heap hz 0
        have x1 : wb1_4.cell? ⟨wc0.heap.size, 1, none⟩ = some (.slice none 0 0) := Lib.cell_of_heap hz 1
        have f1 : wb1_4.frozen? ⟨wc0.heap.size, 1, none⟩ = false := Lib.frozen_of_heap hz 1
        have x2 : wb1_4.cell? ⟨wc0.heap.size, 2, none⟩ = some (.slice none 0 0) := Lib.cell_of_heap hz 2
        have f2 : wb1_4.frozen? ⟨wc0.heap.size, 2, none⟩ = false := Lib.frozen_of_heap hz 2
        have x3 : wb1_4.cell? ⟨wc0.heap.size, 3, none⟩ = some (.slice none 0 0) := Lib.cell_of_heap hz 3
        have f3 : wb1_4.frozen? ⟨wc0.heap.size, 3, none⟩ = false := Lib.frozen_of_heap hz 3
        have x4 : wb1_4.cell? ⟨wc0.heap.size, 4, none⟩ = some (.slice none 0 0) := Lib.cell_of_heap hz 4
        have f4 : wb1_4.frozen? ⟨wc0.heap.size, 4, none⟩ = false := Lib.frozen_of_heap hz 4
        have x5 : wb1_4.cell? ⟨wc0.heap.size, 5, none⟩ = some (.slice none 0 0) := Lib.cell_of_heap hz 5
        have f5 : wb1_4.frozen? ⟨wc0.heap.size, 5, none⟩ = false := Lib.frozen_of_heap hz 5
        have x6 : wb1_4.cell? ⟨wc0.heap.size, 6, none⟩ = some (.slice none 0 0) := Lib.cell_of_heap hz 6
        have f6 : wb1_4.frozen? ⟨wc0.heap.size, 6, none⟩ = false := Lib.frozen_of_heap hz 6
        refine wpKind_serial (by rfl) rfl (fun n2 => ?_)
        have HO := Lib.hid (OutS.of (w := wb1_4.drewN n2) (x := x) HP.out hz (o0.drewN n2) (o1.drewN n2) (o2.drewN n2) (o3.drewN n2) (o4.drewN n2) (below_drewN HBb1_4.out n2))
        clear o0 o1 o2 o3 o4 hz HIb1_4
        go_wp2_with fail
        clear x0 f0 x1 f1 x2 f2 x3 f3 x4 f4 x5 f5 x6 f6
        show wpKind _ _ _ _ _ _ _ _ _
        refine wpKind_fin ?_
        refine goon_end (by kernel_rfl) (fun n3 => ?_)
        go_wp2_with fail
        go_meet
        case rel => exact ⟨_, _, _, _, _, _, rfl, HO.out.drewN n3⟩
    · refine hOp_keeps (by rfl) rfl (fun n1 => ?_)
      go_wp2_with fail
      generalize hwn : World.alloc _ (.cells #[.int .i64 0, .slice none 0 0, .slice none 0 0, .slice none 0 0, .slice none 0 0, .slice none 0 0, .slice none 0 0] 29) = wa0
      have hBn : Below w1.heap.size w1 wa0 := by rw [← hwn]; exact (below_drewN (Below.refl _ _) _).alloc (by exact Nat.le_refl _) _
      have hz : wa0.heap[w1.heap.size]? = some (.cells #[.int .i64 0, .slice none 0 0, .slice none 0 0, .slice none 0 0, .slice none 0 0, .slice none 0 0, .slice none 0 0] 29 (0, 0)) := by rw [← hwn]; exact heap_alloc_new (w1.drewN _) _
      have hlt : w1.heap.size < wa0.heap.size := by rw [← hwn]; simp
      have HIa0 := Lib.hid fun wz (h : Below wa0.heap.size wa0 wz) => And.intro (HI0.out wz (hBn.trans (h.mono hBn.size))) ((h.block _ hlt).trans hz)
      have HBa0 := Lib.hid (HB0.out.trans (hBn.mono HB0.out.size))
      have HP := Lib.hid (show w1.heap.size ≤ w1.heap.size from HB0.out.size)
      clear hBn hz hlt hwn HI0
      show _ ∧ _
      refine ⟨HSW.out wa0 HBa0.out, ?_⟩
      refine goon_walk [4, 7, 10, 13, 16, 17, 19] 0 rfl (by kernel_rfl) (by kernel_rfl) (fun w n h => h) ?_
      repeat (refine wpKind_free (v := ?_) (by rfl) rfl (by rfl) ?_ ?_; rotate_left 1; (focus (intro wy; go_simp; try with_reducible rfl; done)); try simp only [Act.put, List.setIfInBounds_toArray, List.set_cons_zero, List.set_cons_succ])
      refine wpKind_keeps (by rfl) rfl (fun n1 => ?_)
      go_wp2_with fail
      refine (HC1.out (wa0.drewN n1) (below_drewN HBa0.out n1)).mono ?_
      rintro e wb0_0 ⟨v0, rfl, ho, hb⟩
      have hBn : Below wa0.heap.size wa0 wb0_0 := Below.lift (below_drewN (Below.refl _ _) n1) hb
      have HIb0_0 := Lib.hid fun wz (h : Below wb0_0.heap.size wb0_0 wz) => And.intro (HIa0.out wz (hBn.trans (h.mono hBn.size))) ((Ow.below ho h fun q hq => (ho.lt hq).2).lower (show w1.heap.size ≤ (wa0.drewN n1).heap.size from HBa0.out.size))
      have HBb0_0 := Lib.hid (HBa0.out.trans (hBn.mono HBa0.out.size))
      obtain ⟨A0, l0, k0, ev⟩ := ow_form ho
      subst ev
      clear hb hBn ho HIa0
      go_wp2_with fail
      show _ ∧ _
      refine ⟨HSW.out wb0_0 HBb0_0.out, ?_⟩
      repeat (refine wpKind_free (v := ?_) (by rfl) rfl (by rfl) ?_ ?_; rotate_left 1; (focus (intro wy; go_simp; try with_reducible rfl; done)); try simp only [Act.put, List.setIfInBounds_toArray, List.set_cons_zero, List.set_cons_succ])
      refine wpKind_keeps (by rfl) rfl (fun n1 => ?_)
      go_wp2_with fail
      refine (HC2.out (wb0_0.drewN n1) (below_drewN HBb0_0.out n1)).mono ?_
      rintro e wb0_1 ⟨v1, rfl, ho, hb⟩
      have hBn : Below wb0_0.heap.size wb0_0 wb0_1 := Below.lift (below_drewN (Below.refl _ _) n1) hb
      have HIb0_1 := Lib.hid fun wz (h : Below wb0_1.heap.size wb0_1 wz) => And.intro (HIb0_0.out wz (hBn.trans (h.mono hBn.size))) ((Ow.below ho h fun q hq => (ho.lt hq).2).lower (show w1.heap.size ≤ (wb0_0.drewN n1).heap.size from HBb0_0.out.size))
      have HBb0_1 := Lib.hid (HBb0_0.out.trans (hBn.mono HBb0_0.out.size))
      obtain ⟨A1, l1, k1, ev⟩ := ow_form ho
      subst ev
      clear hb hBn ho HIb0_0
      go_wp2_with fail
      show _ ∧ _
      refine ⟨HSW.out wb0_1 HBb0_1.out, ?_⟩
      repeat (refine wpKind_free (v := ?_) (by rfl) rfl (by rfl) ?_ ?_; rotate_left 1; (focus (intro wy; go_simp; try with_reducible rfl; done)); try simp only [Act.put, List.setIfInBounds_toArray, List.set_cons_zero, List.set_cons_succ])
      refine wpKind_keeps (by rfl) rfl (fun n1 => ?_)
      go_wp2_with fail
      refine (HC3.out (wb0_1.drewN n1) (below_drewN HBb0_1.out n1)).mono ?_
      rintro e wb0_2 ⟨v2, rfl, ho, hb⟩
      have hBn : Below wb0_1.heap.size wb0_1 wb0_2 := Below.lift (below_drewN (Below.refl _ _) n1) hb
      have HIb0_2 := Lib.hid fun wz (h : Below wb0_2.heap.size wb0_2 wz) => And.intro (HIb0_1.out wz (hBn.trans (h.mono hBn.size))) ((Ow.below ho h fun q hq => (ho.lt hq).2).lower (show w1.heap.size ≤ (wb0_1.drewN n1).heap.size from HBb0_1.out.size))
      have HBb0_2 := Lib.hid (HBb0_1.out.trans (hBn.mono HBb0_1.out.size))
      obtain ⟨A2, l2, k2, ev⟩ := ow_form ho
      subst ev
      clear hb hBn ho HIb0_1
      go_wp2_with fail
      show _ ∧ _
      refine ⟨HSW.out wb0_2 HBb0_2.out, ?_⟩
      repeat (refine wpKind_free (v := ?_) (by rfl) rfl (by rfl) ?_ ?_; rotate_left 1; (focus (intro wy; go_simp; try with_reducible rfl; done)); try simp only [Act.put, List.setIfInBounds_toArray, List.set_cons_zero, List.set_cons_succ])
      refine wpKind_keeps (by rfl) rfl (fun n1 => ?_)
      go_wp2_with fail
      refine (HC4.out (wb0_2.drewN n1) (below_drewN HBb0_2.out n1)).mono ?_
      rintro e wb0_3 ⟨v3, rfl, ho, hb⟩
      have hBn : Below wb0_2.heap.size wb0_2 wb0_3 := Below.lift (below_drewN (Below.refl _ _) n1) hb
      have HIb0_3 := Lib.hid fun wz (h : Below wb0_3.heap.size wb0_3 wz) => And.intro (HIb0_2.out wz (hBn.trans (h.mono hBn.size))) ((Ow.below ho h fun q hq => (ho.lt hq).2).lower (show w1.heap.size ≤ (wb0_2.drewN n1).heap.size from HBb0_2.out.size))
      have HBb0_3 := Lib.hid (HBb0_2.out.trans (hBn.mono HBb0_2.out.size))
      obtain ⟨A3, l3, k3, ev⟩ := ow_form ho
      subst ev
      clear hb hBn ho HIb0_2
      go_wp2_with fail
      show _ ∧ _
      refine ⟨HSW.out wb0_3 HBb0_3.out, ?_⟩
      repeat (refine wpKind_free (v := ?_) (by rfl) rfl (by rfl) ?_ ?_; rotate_left 1; (focus (intro wy; go_simp; try with_reducible rfl; done)); try simp only [Act.put, List.setIfInBounds_toArray, List.set_cons_zero, List.set_cons_succ])
      refine wpKind_keeps (by rfl) rfl (fun n1 => ?_)
      go_wp2_with fail
      refine (HC5.out (wb0_3.drewN n1) (below_drewN HBb0_3.out n1)).mono ?_
      rintro e wb0_4 ⟨v4, rfl, ho, hb⟩
      have hBn : Below wb0_3.heap.size wb0_3 wb0_4 := Below.lift (below_drewN (Below.refl _ _) n1) hb
      have HIb0_4 := Lib.hid fun wz (h : Below wb0_4.heap.size wb0_4 wz) => And.intro (HIb0_3.out wz (hBn.trans (h.mono hBn.size))) ((Ow.below ho h fun q hq => (ho.lt hq).2).lower (show w1.heap.size ≤ (wb0_3.drewN n1).heap.size from HBb0_3.out.size))
      have HBb0_4 := Lib.hid (HBb0_3.out.trans (hBn.mono HBb0_3.out.size))
      obtain ⟨A4, l4, k4, ev⟩ := ow_form ho
      subst ev
      clear hb hBn ho HIb0_3
      go_wp2_with fail
      show _ ∧ _
      refine ⟨HSW.out wb0_4 HBb0_4.out, ?_⟩
      repeat (refine wpKind_free (v := ?_) (by rfl) rfl (by rfl) ?_ ?_; rotate_left 1; (focus (intro wy; go_simp; try with_reducible rfl; done)); try simp only [Act.put, List.setIfInBounds_toArray, List.set_cons_zero, List.set_cons_succ])
      obtain ⟨⟨⟨⟨⟨⟨_, hz⟩, o0⟩, o1⟩, o2⟩, o3⟩, o4⟩ := HIb0_4.out wb0_4 (Below.refl _ _)
      have x0 : wb0_4.cell? ⟨w1.heap.size, 0, none⟩ = some (.int .i64 0) := Lib.cell_of_heap hz 0
      have f0 : wb0_4.frozen? ⟨w1.heap.size, 0, none⟩ = false := Lib.frozen_of_heap hz 0
      have x1 : wb0_4.cell? ⟨w1.heap.size, 1, none⟩ = some (.slice none 0 0) := Lib.cell_of_heap hz 1
      have f1 : wb0_4.frozen? ⟨w1.heap.size, 1, none⟩ = false := Lib.frozen_of_heap hz 1
      have x2 : wb0_4.cell? ⟨w1.heap.size, 2, none⟩ = some (.slice none 0 0) := Lib.cell_of_heap hz 2
      have f2 : wb0_4.frozen? ⟨w1.heap.size, 2, none⟩ = false := Lib.frozen_of_heap hz 2
      have x3 : wb0_4.cell? ⟨w1.heap.size, 3, none⟩ = some (.slice none 0 0) := Lib.cell_of_heap hz 3
      have f3 : wb0_4.frozen? ⟨w1.heap.size, 3, none⟩ = false := Lib.frozen_of_heap hz 3
      have x4 : wb0_4.cell? ⟨w1.heap.size, 4, none⟩ = some (.slice none 0 0) := Lib.cell_of_heap hz 4
      have f4 : wb0_4.frozen? ⟨w1.heap.size, 4, none⟩ = false := Lib.frozen_of_heap hz 4
      have x5 : wb0_4.cell? ⟨w1.heap.size, 5, none⟩ = some (.slice none 0 0) := Lib.cell_of_heap hz 5
      have f5 : wb0_4.frozen? ⟨w1.heap.size, 5, none⟩ = false := Lib.frozen_of_heap hz 5
      have x6 : wb0_4.cell? ⟨w1.heap.size, 6, none⟩ = some (.slice none 0 0) := Lib.cell_of_heap hz 6
      have f6 : wb0_4.frozen? ⟨w1.heap.size, 6, none⟩ = false := Lib.frozen_of_heap hz 6
      refine wpKind_serial (by rfl) rfl (fun n2 => ?_)
      have HO := Lib.hid (OutS.of (w := wb0_4.drewN n2) (x := x) HP.out hz (o0.drewN n2) (o1.drewN n2) (o2.drewN n2) (o3.drewN n2) (o4.drewN n2) (below_drewN HBb0_4.out n2))
      clear o0 o1 o2 o3 o4 hz HIb0_4
      go_wp2_with fail
      clear x0 f0 x1 f1 x2 f2 x3 f3 x4 f4 x5 f5 x6 f6
      show wpKind _ _ _ _ _ _ _ _ _
      refine wpKind_fin ?_
      refine goon_end (by kernel_rfl) (fun n3 => ?_)
      go_wp2_with fail
      go_meet
      case rel => exact ⟨_, _, _, _, _, _, rfl, HO.out.drewN n3⟩
  case rest =>
    obtain ⟨p, vs, vp, vd, vt, vh, rfl, hO⟩ := hcut
    have HO := Lib.hid hO
    have HBC := Lib.hid fun wz (h : wc.grownBy wz (some p)) => (hO.below.grown h hO.below.size fun k hk => by injection hk with hk; subst hk; exact hO.lo)
    obtain ⟨s0, s1, s2, s3, s4, s5, s6⟩ := HSW.out wc hO.below
    have hst : RtL wc x p vs vp vd vt vh 0 wc := ⟨.slice none 0 0, [], by simp, hO.at_, Ow.nil_, fun r hr => (by cases hr), World.grownBy.refl wc _⟩
    have HST := Lib.hid hst
    clear hO hst
    go_wp2_with fail
    clear s0 s1 s2 s3 s4 s5 s6
    go_loopw [4] (fun s wr => ∃ k : Nat, k ≤ x.routes.length ∧ s = .int .i64 k ∧ RtL wc x p vs vp vd vt vh k wr) (fun s _ => x.routes.length - (intOf s).toNat)
    case atStart => exact ⟨0, Nat.zero_le _, rfl, HST.out⟩
    case round =>
      obtain ⟨k, hk, rfl, vr, rs, hd, hp, ho, he, hgr⟩ := hrel
      have hB := HBC.out wr hgr
      obtain ⟨s0, s1, s2, s3, s4, s5, s6⟩ := HSW.out wr hB
      by_cases hlt : k < x.routes.length
      · have hst := HG1.out.routes
        rw [HER.out] at hst
        obtain ⟨b1, o1, p1, e1, _, _, hl1, _, hxx⟩ := hst.at_ hlt
        injection e1 with e1 e2 e3
        subst e1 e3
        obtain ⟨y, hye⟩ : ∃ y, x.routes[k] = y := ⟨_, rfl⟩
        have hmem : y ∈ x.routes := hye ▸ List.getElem_mem hlt
        rw [hye] at hxx
        have hyg := (HG1.out.below_ hB).each y hmem
        have hye3 := HF.out.each y hmem
        have HC := Lib.hid fun (wy : World) (hbY : Below wr.heap.size wr wy) => ownRoute1_any wy y (hyg.below_ hbY) hye3.1 hye3.2.1 hye3.2.2
        obtain ⟨B1, z1, g1, _, _⟩ := hyg.stops.shape
        obtain ⟨B2, z2, g2, _, _⟩ := hyg.rides.shape
        obtain ⟨B3, z3, g3, _, _⟩ := hyg.stays.shape
        have hx0 : wr.cell? ⟨b1, o1 + k * 4, none⟩ = some (.string (ba y.name)) := (hB.cell (p := ⟨b1, o1 + k * 4, none⟩) hl1).trans (by simpa using hxx 0 _ rfl)
        have hx1 : wr.cell? ⟨b1, o1 + k * 4 + 1, none⟩ = some y.vs := (hB.cell (p := ⟨b1, o1 + k * 4 + 1, none⟩) hl1).trans (by simpa using hxx 1 _ rfl)
        have hx2 : wr.cell? ⟨b1, o1 + k * 4 + 2, none⟩ = some y.vr := (hB.cell (p := ⟨b1, o1 + k * 4 + 2, none⟩) hl1).trans (by simpa using hxx 2 _ rfl)
        have hx3 : wr.cell? ⟨b1, o1 + k * 4 + 3, none⟩ = some y.vy := (hB.cell (p := ⟨b1, o1 + k * 4 + 3, none⟩) hl1).trans (by simpa using hxx 3 _ rfl)
        rw [g1] at hx1 HC
        rw [g2] at hx2 HC
        rw [g3] at hx3 HC
        obtain ⟨Av, nv, cv, ev⟩ := ow_form ho
        subst ev
        have pl : p < wr.heap.size := (Array.getElem?_eq_some_iff.1 hp).1
        have r3 : (0 : Int) ≤ (k : Int) := by omega
        have r4 : (k : Int) < (x.routes.length : Int) := by omega
        have hrl : rs.length ≤ 1024 := by
          have := congrArg List.length hd
          rw [List.length_map, List.length_map, List.length_take] at this
          omega
        have hSw : RoS w.heap.size p b1 (o1 + k * 4) (.slice Av nv cv) (.slice (some ⟨b1, o1, none⟩) x.routes.length cr) (.string (ba y.name)) (.slice B1 y.stops.length z1) (.slice B2 y.rides.length z2) (.slice B3 y.stays.length z3) wr := ⟨Lib.cell_of_heap hp 4, s4, hx0, hx1, hx2, hx3⟩
        have HSV := Lib.hid hSw
        have HD := Lib.hid (show ∀ r : RouteM, r.d = y.d → (rs ++ [r]).map RouteM.d = (x.routes.take (k + 1)).map RouteM.d from fun r hr => by rw [List.map_append, hd, take_succ_eq _ _ hlt, List.map_append, hye]; simp [hr])
        have HP := Lib.hid hp
        have HOW := Lib.hid ho
        have HE := Lib.hid he
        have HGR := Lib.hid hgr
        have HPL := Lib.hid pl
        have HWC := Lib.hid (show w1.heap.size ≤ wc.heap.size from HO.out.below.size)
        have HL1 := Lib.hid hl1
        have HWX := Lib.hid (Nat.lt_of_succ_lt HLT.out)
        clear hxx hst hmem hyg hye3 g1 g2 g3 hx0 hx1 hx2 hx3 s0 s1 s2 s3 s5 s6 hB hd hp ho he hgr hye pl hl1
        go_wp2_with fail
        clear s4
        refine wp_region_kinds (RoS w.heap.size p b1 (o1 + k * 4) (.slice Av nv cv) (.slice (some ⟨b1, o1, none⟩) x.routes.length cr) (.string (ba y.name)) (.slice B1 y.stops.length z1) (.slice B2 y.rides.length z2) (.slice B3 y.stays.length z3)) [7, 8, 9] [11] [1, 3, 6] [0, 2, 4, 5, 10] [0, 1, 2, 3, 4, 5, 6, 7, 8, 9, 10, 11] (by kernel_rfl) (by kernel_rfl) (fun w n h => h) ?_
        repeat (first | (refine wpKind_free (v := ?_) (by rfl) rfl (by rfl) ?_ ?_; rotate_left 1; (focus (intro wy; go_simp; try with_reducible rfl; done)); try simp only [Act.put, List.setIfInBounds_toArray, List.set_cons_zero, List.set_cons_succ]) | (refine wpKind_free (v := ?_) (by rfl) rfl (by rfl) ?_ ?_; rotate_left 1; (focus (intro wy; go_simp; rw [if_pos (show _ ∧ _ from ⟨by omega, by omega⟩)]; (try rw [Int.toNat_natCast]); (first | with_reducible rfl | (simp only [Nat.mul_one]; with_reducible rfl)); done)); try simp only [Act.put, List.setIfInBounds_toArray, List.set_cons_zero, List.set_cons_succ]) | (refine wpKind_held (v := ?_) (by rfl) rfl (by rfl) hSw ?_ ?_; rotate_left 1; (focus (intro wy hSy; obtain ⟨s0, s1, s2, s3, s4, s5⟩ := hSy; go_simp; try with_reducible rfl; done)); try simp only [Act.put, List.setIfInBounds_toArray, List.set_cons_zero, List.set_cons_succ]))
        refine wpKind_keeps (by rfl) rfl (fun m1 => ?_)
        go_wp2_with fail
        refine (HC.out (wr.drewN m1) (below_drewN (Below.refl _ _) m1)).mono ?_
        rintro e w2 ⟨nm, qs, qr, qy, ss, rr, yy, hqd, rfl, hqg, hb2⟩
        have hb2w : Below wr.heap.size wr w2 := Below.lift (below_drewN (Below.refl _ _) m1) hb2
        have hS2 := HSV.out.keep (hb2w.block _ HPL.out) (hb2w.block _ (Nat.lt_of_lt_of_le (Nat.lt_of_lt_of_le HWX.out HWC.out) HGR.out.size)) (hb2w.block _ (Nat.lt_of_lt_of_le (Nat.lt_of_lt_of_le HL1.out HWC.out) HGR.out.size))
        have HP2 := Lib.hid ((hb2w.block p HPL.out).trans HP.out)
        have HOW2 := Lib.hid (Ow.below HOW.out hb2w fun q hq => (HOW.out.lt hq).2)
        have HE2 := Lib.hid fun r hr => (HE.out r hr).below_ hb2w
        have HGR2 := Lib.hid (grown_below HGR.out hb2w HGR.out.size)
        have HQ2 := Lib.hid (hqg.mono (Q := fun b => wc.heap.size ≤ b ∧ some b ≠ (Value.slice Av nv cv).ownBlock) fun b hb => ⟨Nat.le_trans HGR.out.size hb, fun e => by have h9 := (HOW.out.lt e.symm).2; have h8 : (wr.drewN m1).heap.size = wr.heap.size := rfl; omega⟩)
        have HQD := Lib.hid hqd
        have HPL2 := Lib.hid (Nat.lt_of_lt_of_le HPL.out hb2w.size)
        clear hb2 hb2w hqg hqd hSw HSV HP HOW HE HGR HPL HC
        have hSw := hS2
        have HSV := Lib.hid hS2
        clear hS2
        go_wp2_with fail
        show _ ∧ _
        refine ⟨hSw, ?_⟩
        refine wpKind_keeps (by rfl) rfl (fun m2 => ?_)
        go_wp2_with fail
        generalize hw3 : World.alloc _ (.cells #[.string (ba nm), qs, qr, qy] 57) = w3
        have hb3 : Below w2.heap.size w2 w3 := by rw [← hw3]; exact (below_drewN (Below.refl _ _) _).alloc (by exact Nat.le_refl _) _
        have HX3 := Lib.hid (show Sl rcN 4 w3 (.slice (some ⟨w2.heap.size, 0, none⟩) 1 1) [RouteM.mk nm qs qr qy ss rr yy] (fun _ => True) by rw [← hw3]; exact Sl.newl [RouteM.mk nm qs qr qy ss rr yy] rcN_len (by rw [List.flatMap_cons, rcN_eq HQ2.out]; rfl) rfl (by show 1 ≤ maxLen; decide) rfl)
        have hS3 := HSV.out.keep (hb3.block _ HPL2.out) (hb3.block _ (Nat.lt_of_lt_of_le (Nat.lt_of_lt_of_le HWX.out HWC.out) HGR2.out.size)) (hb3.block _ (Nat.lt_of_lt_of_le (Nat.lt_of_lt_of_le HL1.out HWC.out) HGR2.out.size))
        have HP3 := Lib.hid ((hb3.block p HPL2.out).trans HP2.out)
        have HOW3 := Lib.hid (Ow.below HOW2.out hb3 fun q hq => (HOW2.out.lt hq).2)
        have HE3 := Lib.hid fun r hr => (HE2.out r hr).below_ hb3
        have HGR3 := Lib.hid (grown_below HGR2.out hb3 HGR2.out.size)
        have HQ3 := Lib.hid (HQ2.out.below_ hb3)
        have HPL3 := Lib.hid (Nat.lt_of_lt_of_le HPL2.out hb3.size)
        clear hb3 hw3 hSw HSV HP2 HOW2 HE2 HGR2 HQ2 HPL2
        have hSw := hS3
        have HSV := Lib.hid hS3
        clear hS3
        show _ ∧ _
        refine ⟨hSw, ?_⟩
        refine wpKind_keeps (by rfl) rfl (fun m3 => ?_)
        go_wp2_with (at_builtin; refine wpList_append_sl _ rfl _ _ _ rfl wc.heap.size 57 i0 _ 88 Tryz.underlying25 hi0 hz0 hz1 hz2 (by rfl) (by omega) rcN_len rcN_one _ _ rs [RouteM.mk nm qs qr qy ss rr yy] rfl rfl (HOW3.out.drewN m3) (HX3.out.drewN m3) (by simp only [maxLen, List.length_cons, List.length_nil]; omega) (by simp only [List.length_cons, List.length_nil]; omega) (by exact HGR3.out.size) ?_; intro v6 w6 hown6 hg6 hmv6; obtain ⟨Aw, nw, cw, ew⟩ := ow_form hown6; subst ew)
        have hge : ∀ b, b < wc.heap.size → some b ≠ (Value.slice Av nv cv).ownBlock := fun b hb e => by have := (HOW3.out.lt e.symm).1; omega
        have hpne : some p ≠ (Value.slice Av nv cv).ownBlock := fun e => ow_ne HOW3.out HP3.out (by decide) e.symm
        have hS6 := HSV.out.keep (hg6.block _ HPL3.out hpne) (hg6.block _ (Nat.lt_of_lt_of_le (Nat.lt_of_lt_of_le HWX.out HWC.out) HGR3.out.size) (hge _ (Nat.lt_of_lt_of_le HWX.out HWC.out))) (hg6.block _ (Nat.lt_of_lt_of_le (Nat.lt_of_lt_of_le HL1.out HWC.out) HGR3.out.size) (hge _ (Nat.lt_of_lt_of_le HL1.out HWC.out)))
        have hP6 := (hg6.block p HPL3.out hpne).trans HP3.out
        have HE6 := Lib.hid (show ∀ r ∈ rs ++ [RouteM.mk nm qs qr qy ss rr yy], r.Good w6 (fun b => wc.heap.size ≤ b ∧ some b ≠ (Value.slice Aw nw cw).ownBlock) from fun r hr => by
          rcases List.mem_append.1 hr with hr | hr
          · exact ((HE3.out r hr).keep (w' := w3.drewN m3) (Nat.le_refl _) fun _ _ _ => rfl).moved hg6 hmv6
          · rw [List.mem_singleton.1 hr]
            exact (HQ3.out.keep (w' := w3.drewN m3) (Nat.le_refl _) fun _ _ _ => rfl).moved hg6 hmv6)
        have HGR6 := Lib.hid (show wc.grownBy w6 (some p) from ⟨hg6.os.trans HGR3.out.os, hg6.tape.trans HGR3.out.tape, hg6.output.trans HGR3.out.output, Nat.le_trans HGR3.out.size hg6.size, fun i hi hne => (hg6.block i (Nat.lt_of_lt_of_le hi HGR3.out.size) (hge i hi)).trans (HGR3.out.block i hi hne)⟩)
        have HO6 := Lib.hid hown6
        have HP6 := Lib.hid hP6
        have x4 : w6.cell? ⟨p, 4, none⟩ = some (.slice Av nv cv) := Lib.cell_of_heap hP6 4
        have f4 : w6.frozen? ⟨p, 4, none⟩ = false := Lib.frozen_of_heap hP6 4
        clear hown6 hg6 hmv6 hP6 hge hpne hSw HSV HP3 HOW3 HE3 HGR3 HQ3 HPL3 HX3
        have hSw := hS6
        clear hS6
        show _ ∧ _
        refine ⟨hSw, ?_⟩
        repeat (first | (refine wpKind_free (v := ?_) (by rfl) rfl (by rfl) ?_ ?_; rotate_left 1; (focus (intro wy; go_simp; try with_reducible rfl; done)); try simp only [Act.put, List.setIfInBounds_toArray, List.set_cons_zero, List.set_cons_succ]) | (refine wpKind_free (v := ?_) (by rfl) rfl (by rfl) ?_ ?_; rotate_left 1; (focus (intro wy; go_simp; rw [if_pos (show _ ∧ _ from ⟨by omega, by omega⟩)]; (try rw [Int.toNat_natCast]); (first | with_reducible rfl | (simp only [Nat.mul_one]; with_reducible rfl)); done)); try simp only [Act.put, List.setIfInBounds_toArray, List.set_cons_zero, List.set_cons_succ]) | (refine wpKind_held (v := ?_) (by rfl) rfl (by rfl) hSw ?_ ?_; rotate_left 1; (focus (intro wy hSy; obtain ⟨s0, s1, s2, s3, s4, s5⟩ := hSy; go_simp; try with_reducible rfl; done)); try simp only [Act.put, List.setIfInBounds_toArray, List.set_cons_zero, List.set_cons_succ]))
        refine wpKind_serial (by rfl) rfl (fun m4 => ?_)
        have HRT := Lib.hid (show RtL wc x p vs vp vd vt vh (k + 1) ((w6.drewN m4).setCell ⟨p, 4, none⟩ (.slice Aw nw cw)) from
          ⟨_, rs ++ [RouteM.mk nm qs qr qy ss rr yy], HD.out _ HQD.out, heap_setCell_same (w6.drewN m4) p 4 _ _ (.slice Aw nw cw) HP6.out, (HO6.out.drewN m4).set (ow_ne HO6.out HP6.out (by decide)),
            fun r hr => (((HE6.out r hr).keep (w' := w6.drewN m4) (Nat.le_refl _) fun _ _ _ => rfl)).set (fun b hb e => by have := (Array.getElem?_eq_some_iff.1 HO.out.at_).1; omega), grown_set (grown_drewN HGR6.out m4)⟩)
        go_wp2_with fail
        clear x4 f4 hSw
        show wpKind _ _ _ _ _ _ _ _ _
        refine wpKind_nil fun m5 => ?_
        go_wp2_with fail
        go_roundw
        case rel => exact ⟨k + 1, by omega, by go_num, HRT.out.drewN m5⟩
        case measure => simp [intOf]; omega
      · have hke : k = x.routes.length := by omega
        subst hke
        rw [List.take_of_length_le (Nat.le_refl _)] at hd
        have hq := (hB.block _ HLT.out).trans HR1.out
        have y0 := Lib.cell_of_heap hp 0
        have x0 := Lib.cell_of_heap hq 0
        have f0 := Lib.frozen_of_heap hq 0
        have y1 := Lib.cell_of_heap hp 1
        have x1 := Lib.cell_of_heap hq 1
        have f1 := Lib.frozen_of_heap hq 1
        have y2 := Lib.cell_of_heap hp 2
        have x2 := Lib.cell_of_heap hq 2
        have f2 := Lib.frozen_of_heap hq 2
        have y3 := Lib.cell_of_heap hp 3
        have x3 := Lib.cell_of_heap hq 3
        have f3 := Lib.frozen_of_heap hq 3
        have y4 := Lib.cell_of_heap hp 4
        have x4 := Lib.cell_of_heap hq 4
        have f4 := Lib.frozen_of_heap hq 4
        have y5 := Lib.cell_of_heap hp 5
        have x5 := Lib.cell_of_heap hq 5
        have f5 := Lib.frozen_of_heap hq 5
        have y6 := Lib.cell_of_heap hp 6
        have x6 := Lib.cell_of_heap hq 6
        have f6 := Lib.frozen_of_heap hq 6
        clear s0 s1 s2 s3 s5 s6
        obtain ⟨Av, nv, cv, ev⟩ := ow_form ho
        subst ev
        obtain ⟨E1, e1, d1, ev1⟩ := ow_form HO.out.stops
        subst ev1
        obtain ⟨E2, e2, d2, ev2⟩ := ow_form HO.out.paths
        subst ev2
        obtain ⟨E3, e3, d3, ev3⟩ := ow_form HO.out.doors
        subst ev3
        obtain ⟨E5, e5, d5, ev5⟩ := ow_form HO.out.trips
        subst ev5
        obtain ⟨E6, e6, d6, ev6⟩ := ow_form HO.out.hazs
        subst ev6
        go_wp2_with fail
        clear y0 y1 y2 y3 y4 y5 y6 x0 x1 x2 x3 x4 x5 x6 f0 f1 f2 f3 f4 f5 f6 s4
        (try simp only [Exit.inBlock, Exit.then])
        have hO := HO.out
        have hlo : w1.heap.size ≤ wc.heap.size := hO.below.size
        have g1 := Ow.kept hO.stops hgr (.inr (ow_ne hO.stops hO.at_ (by decide)))
        have g2 := Ow.kept hO.paths hgr (.inr (ow_ne hO.paths hO.at_ (by decide)))
        have g3 := Ow.kept hO.doors hgr (.inr (ow_ne hO.doors hO.at_ (by decide)))
        have g5 := Ow.kept hO.trips hgr (.inr (ow_ne hO.trips hO.at_ (by decide)))
        have g6 := Ow.kept hO.hazs hgr (.inr (ow_ne hO.hazs hO.at_ (by decide)))
        have qlt : w.heap.size + 1 < w1.heap.size := HLT.out
        have m1 : (Value.slice E1 e1 d1).ownBlock ≠ some (w.heap.size + 1) := fun e => by have := (g1.lt e).1; omega
        have m2 : (Value.slice E2 e2 d2).ownBlock ≠ some (w.heap.size + 1) := fun e => by have := (g2.lt e).1; omega
        have m3 : (Value.slice E3 e3 d3).ownBlock ≠ some (w.heap.size + 1) := fun e => by have := (g3.lt e).1; omega
        have m4 : (Value.slice Av nv cv).ownBlock ≠ some (w.heap.size + 1) := fun e => by have := (ho.lt e).1; omega
        have m5 : (Value.slice E5 e5 d5).ownBlock ≠ some (w.heap.size + 1) := fun e => by have := (g5.lt e).1; omega
        have m6 : (Value.slice E6 e6 d6).ownBlock ≠ some (w.heap.size + 1) := fun e => by have := (g6.lt e).1; omega
        have bs : ∀ b, wc.heap.size ≤ b → some b ≠ (Value.slice E1 e1 d1).ownBlock := fun b hb e => by have := (hO.stops.lt e.symm).2; omega
        have bt : ∀ b, wc.heap.size ≤ b → some b ≠ (Value.slice E5 e5 d5).ownBlock := fun b hb e => by have := (hO.trips.lt e.symm).2; omega
        have bq : ∀ b, wc.heap.size ≤ b → b ≠ w.heap.size + 1 := fun b hb e => by omega
        have t0 := heap_setCell_same wr (w.heap.size + 1) 0 _ _ (.int .i64 x.hor) hq
        have t1 := heap_setCell_same _ (w.heap.size + 1) 1 _ _ (.slice E1 e1 d1) t0
        have t2 := heap_setCell_same _ (w.heap.size + 1) 2 _ _ (.slice E2 e2 d2) t1
        have t3 := heap_setCell_same _ (w.heap.size + 1) 3 _ _ (.slice E3 e3 d3) t2
        have t4 := heap_setCell_same _ (w.heap.size + 1) 4 _ _ (.slice Av nv cv) t3
        have t5 := heap_setCell_same _ (w.heap.size + 1) 5 _ _ (.slice E5 e5 d5) t4
        have t6 := heap_setCell_same _ (w.heap.size + 1) 6 _ _ (.slice E6 e6 d6) t5
        have lw : w.heap.size ≤ w1.heap.size := by omega
        refine bodyPost_ret (results_cell_row rfl _ _ (w.heap.size + 1) _ _ (0, 0) _ rfl t6 Tryz.underlying29 rfl (by kernel_rfl)) rfl ⟨⟨x.hor, (.slice E1 e1 d1), (.slice E2 e2 d2), (.slice E3 e3 d3), .slice Av nv cv, (.slice E5 e5 d5), (.slice E6 e6 d6), x.stops, x.paths, x.doors, rs, x.trips, x.hazs⟩, rfl, ?_⟩
        have bp : ∀ b, wc.heap.size ≤ b → some b ≠ (Value.slice E2 e2 d2).ownBlock := fun b hb e => by have := (hO.paths.lt e.symm).2; omega
        have bd : ∀ b, wc.heap.size ≤ b → some b ≠ (Value.slice E3 e3 d3).ownBlock := fun b hb e => by have := (hO.doors.lt e.symm).2; omega
        have bh : ∀ b, wc.heap.size ≤ b → some b ≠ (Value.slice E6 e6 d6).ownBlock := fun b hb e => by have := (hO.hazs.lt e.symm).2; omega
        refine ⟨?_, ?_, ?_, ?_, ?_, ?_, ?_, ?_, ?_, ?_, ?_⟩
        · show SheetD.mk _ _ _ _ _ _ _ = SheetD.mk _ _ _ _ _ _ _
          rw [hd]
        · exact (((((((HB1.out.trans (hB.mono HB1.out.size)).setCell (p := ⟨w.heap.size + 1, 0, none⟩) (Nat.le_succ _) _).setCell (p := ⟨w.heap.size + 1, 1, none⟩) (Nat.le_succ _) _).setCell (p := ⟨w.heap.size + 1, 2, none⟩) (Nat.le_succ _) _).setCell (p := ⟨w.heap.size + 1, 3, none⟩) (Nat.le_succ _) _).setCell (p := ⟨w.heap.size + 1, 4, none⟩) (Nat.le_succ _) _).setCell (p := ⟨w.heap.size + 1, 5, none⟩) (Nat.le_succ _) _).setCell (p := ⟨w.heap.size + 1, 6, none⟩) (Nat.le_succ _) _
        · exact (((((((g1.set m1).set m1).set m1).set m1).set m1).set m1).set m1).lower lw
        · exact (((((((g2.set m2).set m2).set m2).set m2).set m2).set m2).set m2).lower lw
        · exact (((((((g3.set m3).set m3).set m3).set m3).set m3).set m3).set m3).lower lw
        · exact (((((((((ho.set m4).set m4).set m4).set m4).set m4).set m4).set m4).sl rcN_len).congr fun r hr => rcN_eq (he r hr)).mono fun b hb => ⟨by omega, bs b hb.2, bt b hb.2⟩
        · intro r hr
          have h0 := he r hr
          have hk : ∀ b, (wc.heap.size ≤ b ∧ some b ≠ (Value.slice Av nv cv).ownBlock) → b ≠ w.heap.size + 1 := fun b hb => bq b hb.1
          exact (((((((h0.set hk).set hk).set hk).set hk).set hk).set hk).set hk).mono fun b hb => ⟨by omega, bs b hb.1, bt b hb.1⟩
        · exact (((((((g5.set m5).set m5).set m5).set m5).set m5).set m5).set m5).lower lw
        · exact (((((((g6.set m6).set m6).set m6).set m6).set m6).set m6).set m6).lower lw
        · exact (((((((ho.set m4).set m4).set m4).set m4).set m4).set m4).set m4).lower (by omega)
        · intro r hr
          have h0 := he r hr
          have hk : ∀ b, (wc.heap.size ≤ b ∧ some b ≠ (Value.slice Av nv cv).ownBlock) → b ≠ w.heap.size + 1 := fun b hb => bq b hb.1
          exact (((((((h0.set hk).set hk).set hk).set hk).set hk).set hk).set hk).mono fun b hb => ⟨bs b hb.1, bp b hb.1, bd b hb.1, hb.2, bt b hb.1, bh b hb.1⟩
end Go.Proofs.YteonefgbdphmiaaGreatDoor
