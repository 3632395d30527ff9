/- A sheet of its own memory that is added to. Printed by wip/bin/genjs.py. -/
import Derived.Test.YteonefgbdphmiaaGreatDoorOy
namespace Go.Proofs.YteonefgbdphmiaaGreatDoor
open Go.RowKit
theorem ow_apartT {α β : Type} {c1 : α → List Value} {c2 : β → List Value} {s1 s2 b1 b2 : Nat} {e1 e2 : TypeId} {v1 v2 : Value} {l1 : List α} {l2 : List β} {w : World} (h1 : Ow c1 s1 w b1 e1 v1 l1) (h2 : Ow c2 s2 w b2 e2 v2 l2) (hne : e2 ≠ e1) : v1.ownBlock = none ∨ v1.ownBlock ≠ v2.ownBlock := by
  rcases h2.2 with ⟨rfl, _⟩ | ⟨g, cap, cur, rfl, _, hg, _⟩
  · by_cases h : v1.ownBlock = none
    · exact .inl h
    · exact .inr h
  · exact .inr (ow_ne h1 hg hne)
/-- Apart from the sheet's rows. -/
structure Far (bk : Nat) (vs vp vd vr vt vh : Value) (i : Nat) : Prop where
  b : i ≠ bk
  s : some i ≠ vs.ownBlock
  p : some i ≠ vp.ownBlock
  d : some i ≠ vd.ownBlock
  r : some i ≠ vr.ownBlock
  t : some i ≠ vt.ownBlock
  z : some i ≠ vh.ownBlock
structure JS (w0 : World) (B bk : Nat) (hor : Int) (vs vp vd vr vt vh : Value) (ls : Nms) (lp : List PathD) (ld : List DoorD) (lr : List RouteM) (lt : List TripD) (lz : List HazD) (r0 : List RouteM) (w : World) : Prop where
  lo : B ≤ bk
  at_ : w.heap[bk]? = some (.cells #[.int .i64 hor, vs, vp, vd, vr, vt, vh] 29 (0, 0))
  s : Ow nc 1 w B 9 vs ls
  p : Ow pc 4 w B 61 vp lp
  d : Ow dc 7 w B 50 vd ld
  r : Ow rcN 4 w B 57 vr lr
  t : Ow trc 5 w B 52 vt lt
  z : Ow hc 5 w B 54 vh lz
  each : ∀ r ∈ r0, r.Good w (Far bk vs vp vd vr vt vh)
  below : Below B w0 w
section
variable {w0 w w1 : World} {B bk : Nat} {hor : Int} {vs vp vd vr vt vh v' : Value} {ls ls' : Nms} {lp lp' : List PathD} {ld ld' : List DoorD} {lr lr' : List RouteM} {lt lt' : List TripD} {lz lz' : List HazD} {r0 : List RouteM}
theorem JS.plt (h : JS w0 B bk hor vs vp vd vr vt vh ls lp ld lr lt lz r0 w) : bk < w.heap.size := (Array.getElem?_eq_some_iff.1 h.at_).1
theorem JS.qs (h : JS w0 B bk hor vs vp vd vr vt vh ls lp ld lr lt lz r0 w) (hg : w.grownBy w1 vs.ownBlock) : w1.heap[bk]? = some (.cells #[.int .i64 hor, vs, vp, vd, vr, vt, vh] 29 (0, 0)) :=
  (hg.block bk h.plt (fun e => ow_ne h.s h.at_ (by decide) e.symm)).trans h.at_
theorem JS.app_s (h : JS w0 B bk hor vs vp vd vr vt vh ls lp ld lr lt lz r0 w) (ho : Ow nc 1 w1 B 9 v' ls') (hg : w.grownBy w1 vs.ownBlock) (hm : Moved w vs v') :
    JS w0 B bk hor v' vp vd vr vt vh ls' lp ld lr lt lz r0 (w1.setCell ⟨bk, 1, none⟩ v') := by
  have q := h.qs hg
  have kp := h.p.kept hg (ow_apartT h.p h.s (by decide))
  have kd := h.d.kept hg (ow_apartT h.d h.s (by decide))
  have kr := h.r.kept hg (ow_apartT h.r h.s (by decide))
  have kt := h.t.kept hg (ow_apartT h.t h.s (by decide))
  have kz := h.z.kept hg (ow_apartT h.z h.s (by decide))
  refine ⟨h.lo, heap_setCell_same w1 bk 1 _ _ v' q, (ho.set (ow_ne ho q (by decide))), (kp.set (ow_ne kp q (by decide))), (kd.set (ow_ne kd q (by decide))), (kr.set (ow_ne kr q (by decide))), (kt.set (ow_ne kt q (by decide))), (kz.set (ow_ne kz q (by decide))), fun r hr => ?_, (h.below.grown hg (Nat.le_of_lt (Nat.lt_of_le_of_lt h.lo h.plt)) fun k hk => (h.s.lt hk).1).setCell (p := ⟨bk, 1, none⟩) h.lo _⟩
  have g := (h.each r hr).mono (Q := fun b => (b ≠ bk ∧ some b ≠ vp.ownBlock ∧ some b ≠ vd.ownBlock ∧ some b ≠ vr.ownBlock ∧ some b ≠ vt.ownBlock ∧ some b ≠ vh.ownBlock) ∧ some b ≠ vs.ownBlock) fun b hb => ⟨⟨hb.b, hb.p, hb.d, hb.r, hb.t, hb.z⟩, hb.s⟩
  exact ((g.moved hg hm).set (p := bk) (i := 1) (u := v') fun b hb => hb.1.1).mono fun b hb => ⟨hb.1.1, hb.2, hb.1.2.1, hb.1.2.2.1, hb.1.2.2.2.1, hb.1.2.2.2.2.1, hb.1.2.2.2.2.2⟩
theorem JS.qp (h : JS w0 B bk hor vs vp vd vr vt vh ls lp ld lr lt lz r0 w) (hg : w.grownBy w1 vp.ownBlock) : w1.heap[bk]? = some (.cells #[.int .i64 hor, vs, vp, vd, vr, vt, vh] 29 (0, 0)) :=
  (hg.block bk h.plt (fun e => ow_ne h.p h.at_ (by decide) e.symm)).trans h.at_
theorem JS.app_p (h : JS w0 B bk hor vs vp vd vr vt vh ls lp ld lr lt lz r0 w) (ho : Ow pc 4 w1 B 61 v' lp') (hg : w.grownBy w1 vp.ownBlock) (hm : Moved w vp v') :
    JS w0 B bk hor vs v' vd vr vt vh ls lp' ld lr lt lz r0 (w1.setCell ⟨bk, 2, none⟩ v') := by
  have q := h.qp hg
  have ks := h.s.kept hg (ow_apartT h.s h.p (by decide))
  have kd := h.d.kept hg (ow_apartT h.d h.p (by decide))
  have kr := h.r.kept hg (ow_apartT h.r h.p (by decide))
  have kt := h.t.kept hg (ow_apartT h.t h.p (by decide))
  have kz := h.z.kept hg (ow_apartT h.z h.p (by decide))
  refine ⟨h.lo, heap_setCell_same w1 bk 2 _ _ v' q, (ks.set (ow_ne ks q (by decide))), (ho.set (ow_ne ho q (by decide))), (kd.set (ow_ne kd q (by decide))), (kr.set (ow_ne kr q (by decide))), (kt.set (ow_ne kt q (by decide))), (kz.set (ow_ne kz q (by decide))), fun r hr => ?_, (h.below.grown hg (Nat.le_of_lt (Nat.lt_of_le_of_lt h.lo h.plt)) fun k hk => (h.p.lt hk).1).setCell (p := ⟨bk, 2, none⟩) h.lo _⟩
  have g := (h.each r hr).mono (Q := fun b => (b ≠ bk ∧ some b ≠ vs.ownBlock ∧ some b ≠ vd.ownBlock ∧ some b ≠ vr.ownBlock ∧ some b ≠ vt.ownBlock ∧ some b ≠ vh.ownBlock) ∧ some b ≠ vp.ownBlock) fun b hb => ⟨⟨hb.b, hb.s, hb.d, hb.r, hb.t, hb.z⟩, hb.p⟩
  exact ((g.moved hg hm).set (p := bk) (i := 2) (u := v') fun b hb => hb.1.1).mono fun b hb => ⟨hb.1.1, hb.1.2.1, hb.2, hb.1.2.2.1, hb.1.2.2.2.1, hb.1.2.2.2.2.1, hb.1.2.2.2.2.2⟩
theorem JS.qd (h : JS w0 B bk hor vs vp vd vr vt vh ls lp ld lr lt lz r0 w) (hg : w.grownBy w1 vd.ownBlock) : w1.heap[bk]? = some (.cells #[.int .i64 hor, vs, vp, vd, vr, vt, vh] 29 (0, 0)) :=
  (hg.block bk h.plt (fun e => ow_ne h.d h.at_ (by decide) e.symm)).trans h.at_
theorem JS.app_d (h : JS w0 B bk hor vs vp vd vr vt vh ls lp ld lr lt lz r0 w) (ho : Ow dc 7 w1 B 50 v' ld') (hg : w.grownBy w1 vd.ownBlock) (hm : Moved w vd v') :
    JS w0 B bk hor vs vp v' vr vt vh ls lp ld' lr lt lz r0 (w1.setCell ⟨bk, 3, none⟩ v') := by
  have q := h.qd hg
  have ks := h.s.kept hg (ow_apartT h.s h.d (by decide))
  have kp := h.p.kept hg (ow_apartT h.p h.d (by decide))
  have kr := h.r.kept hg (ow_apartT h.r h.d (by decide))
  have kt := h.t.kept hg (ow_apartT h.t h.d (by decide))
  have kz := h.z.kept hg (ow_apartT h.z h.d (by decide))
  refine ⟨h.lo, heap_setCell_same w1 bk 3 _ _ v' q, (ks.set (ow_ne ks q (by decide))), (kp.set (ow_ne kp q (by decide))), (ho.set (ow_ne ho q (by decide))), (kr.set (ow_ne kr q (by decide))), (kt.set (ow_ne kt q (by decide))), (kz.set (ow_ne kz q (by decide))), fun r hr => ?_, (h.below.grown hg (Nat.le_of_lt (Nat.lt_of_le_of_lt h.lo h.plt)) fun k hk => (h.d.lt hk).1).setCell (p := ⟨bk, 3, none⟩) h.lo _⟩
  have g := (h.each r hr).mono (Q := fun b => (b ≠ bk ∧ some b ≠ vs.ownBlock ∧ some b ≠ vp.ownBlock ∧ some b ≠ vr.ownBlock ∧ some b ≠ vt.ownBlock ∧ some b ≠ vh.ownBlock) ∧ some b ≠ vd.ownBlock) fun b hb => ⟨⟨hb.b, hb.s, hb.p, hb.r, hb.t, hb.z⟩, hb.d⟩
  exact ((g.moved hg hm).set (p := bk) (i := 3) (u := v') fun b hb => hb.1.1).mono fun b hb => ⟨hb.1.1, hb.1.2.1, hb.1.2.2.1, hb.2, hb.1.2.2.2.1, hb.1.2.2.2.2.1, hb.1.2.2.2.2.2⟩
theorem JS.qr (h : JS w0 B bk hor vs vp vd vr vt vh ls lp ld lr lt lz r0 w) (hg : w.grownBy w1 vr.ownBlock) : w1.heap[bk]? = some (.cells #[.int .i64 hor, vs, vp, vd, vr, vt, vh] 29 (0, 0)) :=
  (hg.block bk h.plt (fun e => ow_ne h.r h.at_ (by decide) e.symm)).trans h.at_
theorem JS.app_r (h : JS w0 B bk hor vs vp vd vr vt vh ls lp ld lr lt lz r0 w) (ho : Ow rcN 4 w1 B 57 v' lr') (hg : w.grownBy w1 vr.ownBlock) (hm : Moved w vr v') :
    JS w0 B bk hor vs vp vd v' vt vh ls lp ld lr' lt lz r0 (w1.setCell ⟨bk, 4, none⟩ v') := by
  have q := h.qr hg
  have ks := h.s.kept hg (ow_apartT h.s h.r (by decide))
  have kp := h.p.kept hg (ow_apartT h.p h.r (by decide))
  have kd := h.d.kept hg (ow_apartT h.d h.r (by decide))
  have kt := h.t.kept hg (ow_apartT h.t h.r (by decide))
  have kz := h.z.kept hg (ow_apartT h.z h.r (by decide))
  refine ⟨h.lo, heap_setCell_same w1 bk 4 _ _ v' q, (ks.set (ow_ne ks q (by decide))), (kp.set (ow_ne kp q (by decide))), (kd.set (ow_ne kd q (by decide))), (ho.set (ow_ne ho q (by decide))), (kt.set (ow_ne kt q (by decide))), (kz.set (ow_ne kz q (by decide))), fun r hr => ?_, (h.below.grown hg (Nat.le_of_lt (Nat.lt_of_le_of_lt h.lo h.plt)) fun k hk => (h.r.lt hk).1).setCell (p := ⟨bk, 4, none⟩) h.lo _⟩
  have g := (h.each r hr).mono (Q := fun b => (b ≠ bk ∧ some b ≠ vs.ownBlock ∧ some b ≠ vp.ownBlock ∧ some b ≠ vd.ownBlock ∧ some b ≠ vt.ownBlock ∧ some b ≠ vh.ownBlock) ∧ some b ≠ vr.ownBlock) fun b hb => ⟨⟨hb.b, hb.s, hb.p, hb.d, hb.t, hb.z⟩, hb.r⟩
  exact ((g.moved hg hm).set (p := bk) (i := 4) (u := v') fun b hb => hb.1.1).mono fun b hb => ⟨hb.1.1, hb.1.2.1, hb.1.2.2.1, hb.1.2.2.2.1, hb.2, hb.1.2.2.2.2.1, hb.1.2.2.2.2.2⟩
theorem JS.qt (h : JS w0 B bk hor vs vp vd vr vt vh ls lp ld lr lt lz r0 w) (hg : w.grownBy w1 vt.ownBlock) : w1.heap[bk]? = some (.cells #[.int .i64 hor, vs, vp, vd, vr, vt, vh] 29 (0, 0)) :=
  (hg.block bk h.plt (fun e => ow_ne h.t h.at_ (by decide) e.symm)).trans h.at_
theorem JS.app_t (h : JS w0 B bk hor vs vp vd vr vt vh ls lp ld lr lt lz r0 w) (ho : Ow trc 5 w1 B 52 v' lt') (hg : w.grownBy w1 vt.ownBlock) (hm : Moved w vt v') :
    JS w0 B bk hor vs vp vd vr v' vh ls lp ld lr lt' lz r0 (w1.setCell ⟨bk, 5, none⟩ v') := by
  have q := h.qt hg
  have ks := h.s.kept hg (ow_apartT h.s h.t (by decide))
  have kp := h.p.kept hg (ow_apartT h.p h.t (by decide))
  have kd := h.d.kept hg (ow_apartT h.d h.t (by decide))
  have kr := h.r.kept hg (ow_apartT h.r h.t (by decide))
  have kz := h.z.kept hg (ow_apartT h.z h.t (by decide))
  refine ⟨h.lo, heap_setCell_same w1 bk 5 _ _ v' q, (ks.set (ow_ne ks q (by decide))), (kp.set (ow_ne kp q (by decide))), (kd.set (ow_ne kd q (by decide))), (kr.set (ow_ne kr q (by decide))), (ho.set (ow_ne ho q (by decide))), (kz.set (ow_ne kz q (by decide))), fun r hr => ?_, (h.below.grown hg (Nat.le_of_lt (Nat.lt_of_le_of_lt h.lo h.plt)) fun k hk => (h.t.lt hk).1).setCell (p := ⟨bk, 5, none⟩) h.lo _⟩
  have g := (h.each r hr).mono (Q := fun b => (b ≠ bk ∧ some b ≠ vs.ownBlock ∧ some b ≠ vp.ownBlock ∧ some b ≠ vd.ownBlock ∧ some b ≠ vr.ownBlock ∧ some b ≠ vh.ownBlock) ∧ some b ≠ vt.ownBlock) fun b hb => ⟨⟨hb.b, hb.s, hb.p, hb.d, hb.r, hb.z⟩, hb.t⟩
  exact ((g.moved hg hm).set (p := bk) (i := 5) (u := v') fun b hb => hb.1.1).mono fun b hb => ⟨hb.1.1, hb.1.2.1, hb.1.2.2.1, hb.1.2.2.2.1, hb.1.2.2.2.2.1, hb.2, hb.1.2.2.2.2.2⟩
theorem JS.qz (h : JS w0 B bk hor vs vp vd vr vt vh ls lp ld lr lt lz r0 w) (hg : w.grownBy w1 vh.ownBlock) : w1.heap[bk]? = some (.cells #[.int .i64 hor, vs, vp, vd, vr, vt, vh] 29 (0, 0)) :=
  (hg.block bk h.plt (fun e => ow_ne h.z h.at_ (by decide) e.symm)).trans h.at_
theorem JS.app_z (h : JS w0 B bk hor vs vp vd vr vt vh ls lp ld lr lt lz r0 w) (ho : Ow hc 5 w1 B 54 v' lz') (hg : w.grownBy w1 vh.ownBlock) (hm : Moved w vh v') :
    JS w0 B bk hor vs vp vd vr vt v' ls lp ld lr lt lz' r0 (w1.setCell ⟨bk, 6, none⟩ v') := by
  have q := h.qz hg
  have ks := h.s.kept hg (ow_apartT h.s h.z (by decide))
  have kp := h.p.kept hg (ow_apartT h.p h.z (by decide))
  have kd := h.d.kept hg (ow_apartT h.d h.z (by decide))
  have kr := h.r.kept hg (ow_apartT h.r h.z (by decide))
  have kt := h.t.kept hg (ow_apartT h.t h.z (by decide))
  refine ⟨h.lo, heap_setCell_same w1 bk 6 _ _ v' q, (ks.set (ow_ne ks q (by decide))), (kp.set (ow_ne kp q (by decide))), (kd.set (ow_ne kd q (by decide))), (kr.set (ow_ne kr q (by decide))), (kt.set (ow_ne kt q (by decide))), (ho.set (ow_ne ho q (by decide))), fun r hr => ?_, (h.below.grown hg (Nat.le_of_lt (Nat.lt_of_le_of_lt h.lo h.plt)) fun k hk => (h.z.lt hk).1).setCell (p := ⟨bk, 6, none⟩) h.lo _⟩
  have g := (h.each r hr).mono (Q := fun b => (b ≠ bk ∧ some b ≠ vs.ownBlock ∧ some b ≠ vp.ownBlock ∧ some b ≠ vd.ownBlock ∧ some b ≠ vr.ownBlock ∧ some b ≠ vt.ownBlock) ∧ some b ≠ vh.ownBlock) fun b hb => ⟨⟨hb.b, hb.s, hb.p, hb.d, hb.r, hb.t⟩, hb.z⟩
  exact ((g.moved hg hm).set (p := bk) (i := 6) (u := v') fun b hb => hb.1.1).mono fun b hb => ⟨hb.1.1, hb.1.2.1, hb.1.2.2.1, hb.1.2.2.2.1, hb.1.2.2.2.2.1, hb.1.2.2.2.2.2, hb.2⟩
end
end Go.Proofs.YteonefgbdphmiaaGreatDoor
