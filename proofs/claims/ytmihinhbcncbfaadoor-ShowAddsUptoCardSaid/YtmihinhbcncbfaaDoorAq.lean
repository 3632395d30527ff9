/- ShowAdds: a sheet of one's own to which a thing is appended. -/
import Derived.Test.YtmihinhbcncbfaaDoorAp
import Derived.Test.YtmihinhbcncbfaaDoorOy
import Derived.Test.YtmihinhbcncbfaaDoorPk
namespace Go.Proofs.YtmihinhbcncbfaaDoor
open Go.RowKit
theorem ownSheet1_any (w : World) (x : SheetM) {P : Nat → Prop} (hg : x.Good w P) (hf : x.Few) :
    Calls Tryd.prog 8 #[x.v] w fun e w' => ∃ A1 c1 A2 c2 A3 c3 A4 n4 c4 A5 c5 A6 c6 rs, rs.map RouteM.d = x.routes.map RouteM.d ∧ e = .returned (.agg #[.int .i64 x.hor, .slice A1 x.stops.length c1, .slice A2 x.paths.length c2, .slice A3 x.doors.length c3, .slice A4 n4 c4, .slice A5 x.trips.length c5, .slice A6 x.hazs.length c6]) ∧
      OwnS w x ⟨x.hor, .slice A1 x.stops.length c1, .slice A2 x.paths.length c2, .slice A3 x.doors.length c3, .slice A4 n4 c4, .slice A5 x.trips.length c5, .slice A6 x.hazs.length c6, x.stops, x.paths, x.doors, rs, x.trips, x.hazs⟩ w' := by
  refine (ownSheet_any w x hg hf).mono ?_
  rintro e w' ⟨⟨hh, vs, vp, vd, vr, vt, vh, ys, yp, yd, yr, yt, yz⟩, rfl, hO⟩
  have hd := hO.d
  unfold SheetM.d at hd
  injection hd with e0 e1 e2 e3 e4 e5 e6
  simp only at e0 e1 e2 e3 e4 e5 e6
  subst e0 e1 e2 e3 e5 e6
  obtain ⟨A1, c1, f1, _, _⟩ := hO.stops.shape
  obtain ⟨A2, c2, f2, _, _⟩ := hO.paths.shape
  obtain ⟨A3, c3, f3, _, _⟩ := hO.doors.shape
  obtain ⟨A4, c4, f4, _, _⟩ := hO.routes.shape
  obtain ⟨A5, c5, f5, _, _⟩ := hO.trips.shape
  obtain ⟨A6, c6, f6, _, _⟩ := hO.hazs.shape
  simp only at f1 f2 f3 f4 f5 f6
  subst f1 f2 f3 f4 f5 f6
  exact ⟨A1, c1, A2, c2, A3, c3, A4, _, c4, A5, c5, A6, c6, yr, e4, rfl, hO⟩
/-- Two rows of one's own of unlike types lie apart. -/
theorem ow_sep {α β : Type} {c : α → List Value} {c' : β → List Value} {size size' base base' : Nat} {e e' : TypeId} {v v' : Value} {l : List α} {l' : List β} {w : World} (h : Ow c size w base e v l) (h' : Ow c' size' w base' e' v' l') (hne : e ≠ e') (b : Nat) (hb : v.ownBlock = some b) : some b ≠ v'.ownBlock := by
  rcases h.2 with ⟨rfl, _⟩ | ⟨g, cap, cur, rfl, _, hg, _⟩
  · cases hb
  · have : g = b := by simpa [Value.ownBlock] using hb
    subst this
    exact fun e => ow_ne h' hg hne e.symm
theorem added_trips {w3 w4 w7 : World} {x Y : SheetM} {v7 : Value} {t : TripD} (hO : OwnS w3 x Y w4) (hs : w4.heap.size ≤ w7.heap.size) (hK : ∀ b, b < w4.heap.size → some b ≠ Y.vt.ownBlock → w7.heap[b]? = w4.heap[b]?) (hT : Sl trc 5 w7 v7 (Y.trips ++ [t]) (fun _ => True)) :
    (SheetM.mk Y.hor Y.vs Y.vp Y.vd Y.vr v7 Y.vh Y.stops Y.paths Y.doors Y.routes (Y.trips ++ [t]) Y.hazs).Good w7 (fun _ => True) :=
  ⟨((hO.stops.sl nc_len).keep hs fun b hb hP => hK b hb (ow_sep hO.stops hO.trips (by decide) b hP.1)).mono fun _ _ => trivial,
   ((hO.paths.sl pc_len).keep hs fun b hb hP => hK b hb (ow_sep hO.paths hO.trips (by decide) b hP.1)).mono fun _ _ => trivial,
   ((hO.doors.sl dc_len).keep hs fun b hb hP => hK b hb (ow_sep hO.doors hO.trips (by decide) b hP.1)).mono fun _ _ => trivial,
   (hO.routes.keep hs fun b hb hP => hK b hb hP.2.2).mono fun _ _ => trivial,
   fun r hr => ((hO.each r hr).keep hs fun b hb hP => hK b hb hP.2.2).mono fun _ _ => trivial,
   hT,
   ((hO.hazs.sl hc_len).keep hs fun b hb hP => hK b hb (ow_sep hO.hazs hO.trips (by decide) b hP.1)).mono fun _ _ => trivial⟩
theorem added_stops {w3 w4 w7 : World} {x Y : SheetM} {v7 : Value} {t : List UInt8} (hO : OwnS w3 x Y w4) (hs : w4.heap.size ≤ w7.heap.size) (hK : ∀ b, b < w4.heap.size → some b ≠ Y.vs.ownBlock → w7.heap[b]? = w4.heap[b]?) (hT : Sl nc 1 w7 v7 (Y.stops ++ [t]) (fun _ => True)) :
    (SheetM.mk Y.hor v7 Y.vp Y.vd Y.vr Y.vt Y.vh (Y.stops ++ [t]) Y.paths Y.doors Y.routes Y.trips Y.hazs).Good w7 (fun _ => True) :=
  ⟨hT,
   ((hO.paths.sl pc_len).keep hs fun b hb hP => hK b hb (ow_sep hO.paths hO.stops (by decide) b hP.1)).mono fun _ _ => trivial,
   ((hO.doors.sl dc_len).keep hs fun b hb hP => hK b hb (ow_sep hO.doors hO.stops (by decide) b hP.1)).mono fun _ _ => trivial,
   (hO.routes.keep hs fun b hb hP => hK b hb hP.2.1).mono fun _ _ => trivial,
   fun r hr => ((hO.each r hr).keep hs fun b hb hP => hK b hb hP.2.1).mono fun _ _ => trivial,
   ((hO.trips.sl trc_len).keep hs fun b hb hP => hK b hb (ow_sep hO.trips hO.stops (by decide) b hP.1)).mono fun _ _ => trivial,
   ((hO.hazs.sl hc_len).keep hs fun b hb hP => hK b hb (ow_sep hO.hazs hO.stops (by decide) b hP.1)).mono fun _ _ => trivial⟩
theorem app_trip {w1 w3 w4 w5 wc w6 : World} {x Y : SheetM} {t : TripD} {v6 : Value} {o : Obj}
    (hO : OwnS w3 x Y w4) (hP5 : w5.heap[w4.heap.size]? = some (.cells Y.c.toArray 29 (0, 0))) (h45 : Below w4.heap.size w4 w5) (hbq : Below w5.heap.size w5 wc)
    (hown6 : Ow trc 5 w6 w3.heap.size 34 v6 (Y.trips ++ [t])) (hg6 : (wc.alloc o).grownBy w6 Y.vt.ownBlock) (h1 : Below w1.heap.size w1 w5) (h13 : w1.heap.size ≤ w3.heap.size) :
    w6.heap[w4.heap.size]? = some (.cells Y.c.toArray 29 (0, 0)) ∧
    (∀ q cq tq, w5.heap.size ≤ q → wc.heap[q]? = some (.cells cq tq (0, 0)) → (w6.setCell ⟨w4.heap.size, 5, none⟩ v6).heap[q]? = some (.cells cq tq (0, 0))) ∧
    Below w1.heap.size w1 (w6.setCell ⟨w4.heap.size, 5, none⟩ v6) ∧
    (w6.setCell ⟨w4.heap.size, 5, none⟩ v6).heap[w4.heap.size]? = some (.cells (SheetM.mk Y.hor Y.vs Y.vp Y.vd Y.vr v6 Y.vh Y.stops Y.paths Y.doors Y.routes (Y.trips ++ [t]) Y.hazs).c.toArray 29 (0, 0)) ∧
    (SheetM.mk Y.hor Y.vs Y.vp Y.vd Y.vr v6 Y.vh Y.stops Y.paths Y.doors Y.routes (Y.trips ++ [t]) Y.hazs).Good (w6.setCell ⟨w4.heap.size, 5, none⟩ v6) (fun _ => True) := by
  have hlt : w4.heap.size < w5.heap.size := (Array.getElem?_eq_some_iff.1 hP5).1
  have hPc := (hbq.block _ hlt).trans hP5
  have ho4 := hO.trips
  have ho5 := Ow.below ho4 h45 fun q hq => (ho4.lt hq).2
  have hoc := Ow.below ho5 hbq fun q hq => (ho5.lt hq).2
  have hPa : (wc.alloc o).heap[w4.heap.size]? = some (.cells Y.c.toArray 29 (0, 0)) := (heap_alloc_old _ _ (Nat.lt_of_lt_of_le hlt hbq.size)).trans hPc
  have hpne : some w4.heap.size ≠ Y.vt.ownBlock := fun e => ow_ne hoc hPc (by decide) e.symm
  have hP6 : w6.heap[w4.heap.size]? = some (.cells Y.c.toArray 29 (0, 0)) := (hg6.block _ (Array.getElem?_eq_some_iff.1 hPa).1 hpne).trans hPa
  have hsz : w4.heap.size ≤ w6.heap.size := by
    have e1 := h45.size
    have e2 := hbq.size
    have e3 := hg6.size
    rw [World.size_alloc] at e3
    omega
  have hv6 : v6.ownBlock ≠ some w4.heap.size := ow_ne hown6 hP6 (by decide)
  refine ⟨hP6, fun q cq tq hql hq => ?_, ?_, heap_setCell_same w6 w4.heap.size 5 _ _ v6 hP6, ?_⟩
  · rw [heap_setCell_other _ _ _ _ (by show q ≠ w4.heap.size; omega)]
    have hqa : (wc.alloc o).heap[q]? = some (.cells cq tq (0, 0)) := (heap_alloc_old _ _ (Array.getElem?_eq_some_iff.1 hq).1).trans hq
    exact (hg6.block q (Array.getElem?_eq_some_iff.1 hqa).1 (fun e => by have := (ho5.lt e.symm).2; omega)).trans hqa
  · have b1 : Below w1.heap.size w1 (wc.alloc o) := (h1.trans (hbq.mono h1.size)).alloc (h1.trans (hbq.mono h1.size)).size _
    have b2 : Below w1.heap.size w1 w6 := b1.grown hg6 b1.size fun k hk => Nat.le_trans h13 (ho4.lt hk).1
    exact b2.setCell (p := ⟨w4.heap.size, 5, none⟩) (Nat.le_trans h13 hO.below.size) v6
  · refine added_trips hO (by simpa [World.setCell] using hsz) (fun b hb hne => ?_) ((hown6.set hv6).sl trc_len |>.mono fun _ _ => trivial)
    rw [heap_setCell_other _ _ _ _ (by show b ≠ w4.heap.size; omega)]
    have hb5 : b < w5.heap.size := by omega
    have hbc : b < wc.heap.size := Nat.lt_of_lt_of_le hb5 hbq.size
    exact (hg6.block b (by rw [World.size_alloc]; omega) hne).trans ((heap_alloc_old _ _ hbc).trans ((hbq.block b hb5).trans (h45.block b hb)))
theorem app_stop {w1 w3 w4 w5 wc w6 : World} {x Y : SheetM} {t : List UInt8} {v6 : Value} {o : Obj}
    (hO : OwnS w3 x Y w4) (hP5 : w5.heap[w4.heap.size]? = some (.cells Y.c.toArray 29 (0, 0))) (h45 : Below w4.heap.size w4 w5) (hbq : Below w5.heap.size w5 wc)
    (hown6 : Ow nc 1 w6 w3.heap.size 9 v6 (Y.stops ++ [t])) (hg6 : (wc.alloc o).grownBy w6 Y.vs.ownBlock) (h1 : Below w1.heap.size w1 w5) (h13 : w1.heap.size ≤ w3.heap.size) :
    w6.heap[w4.heap.size]? = some (.cells Y.c.toArray 29 (0, 0)) ∧
    (∀ q cq tq, w5.heap.size ≤ q → wc.heap[q]? = some (.cells cq tq (0, 0)) → (w6.setCell ⟨w4.heap.size, 1, none⟩ v6).heap[q]? = some (.cells cq tq (0, 0))) ∧
    Below w1.heap.size w1 (w6.setCell ⟨w4.heap.size, 1, none⟩ v6) ∧
    (w6.setCell ⟨w4.heap.size, 1, none⟩ v6).heap[w4.heap.size]? = some (.cells (SheetM.mk Y.hor v6 Y.vp Y.vd Y.vr Y.vt Y.vh (Y.stops ++ [t]) Y.paths Y.doors Y.routes Y.trips Y.hazs).c.toArray 29 (0, 0)) ∧
    (SheetM.mk Y.hor v6 Y.vp Y.vd Y.vr Y.vt Y.vh (Y.stops ++ [t]) Y.paths Y.doors Y.routes Y.trips Y.hazs).Good (w6.setCell ⟨w4.heap.size, 1, none⟩ v6) (fun _ => True) := by
  have hlt : w4.heap.size < w5.heap.size := (Array.getElem?_eq_some_iff.1 hP5).1
  have hPc := (hbq.block _ hlt).trans hP5
  have ho4 := hO.stops
  have ho5 := Ow.below ho4 h45 fun q hq => (ho4.lt hq).2
  have hoc := Ow.below ho5 hbq fun q hq => (ho5.lt hq).2
  have hPa : (wc.alloc o).heap[w4.heap.size]? = some (.cells Y.c.toArray 29 (0, 0)) := (heap_alloc_old _ _ (Nat.lt_of_lt_of_le hlt hbq.size)).trans hPc
  have hpne : some w4.heap.size ≠ Y.vs.ownBlock := fun e => ow_ne hoc hPc (by decide) e.symm
  have hP6 : w6.heap[w4.heap.size]? = some (.cells Y.c.toArray 29 (0, 0)) := (hg6.block _ (Array.getElem?_eq_some_iff.1 hPa).1 hpne).trans hPa
  have hsz : w4.heap.size ≤ w6.heap.size := by
    have e1 := h45.size
    have e2 := hbq.size
    have e3 := hg6.size
    rw [World.size_alloc] at e3
    omega
  have hv6 : v6.ownBlock ≠ some w4.heap.size := ow_ne hown6 hP6 (by decide)
  refine ⟨hP6, fun q cq tq hql hq => ?_, ?_, heap_setCell_same w6 w4.heap.size 1 _ _ v6 hP6, ?_⟩
  · rw [heap_setCell_other _ _ _ _ (by show q ≠ w4.heap.size; omega)]
    have hqa : (wc.alloc o).heap[q]? = some (.cells cq tq (0, 0)) := (heap_alloc_old _ _ (Array.getElem?_eq_some_iff.1 hq).1).trans hq
    exact (hg6.block q (Array.getElem?_eq_some_iff.1 hqa).1 (fun e => by have := (ho5.lt e.symm).2; omega)).trans hqa
  · have b1 : Below w1.heap.size w1 (wc.alloc o) := (h1.trans (hbq.mono h1.size)).alloc (h1.trans (hbq.mono h1.size)).size _
    have b2 : Below w1.heap.size w1 w6 := b1.grown hg6 b1.size fun k hk => Nat.le_trans h13 (ho4.lt hk).1
    exact b2.setCell (p := ⟨w4.heap.size, 1, none⟩) (Nat.le_trans h13 hO.below.size) v6
  · refine added_stops hO (by simpa [World.setCell] using hsz) (fun b hb hne => ?_) ((hown6.set hv6).sl nc_len |>.mono fun _ _ => trivial)
    rw [heap_setCell_other _ _ _ _ (by show b ≠ w4.heap.size; omega)]
    have hb5 : b < w5.heap.size := by omega
    have hbc : b < wc.heap.size := Nat.lt_of_lt_of_le hb5 hbq.size
    exact (hg6.block b (by rw [World.size_alloc]; omega) hne).trans ((heap_alloc_old _ _ hbc).trans ((hbq.block b hb5).trans (h45.block b hb)))
end Go.Proofs.YtmihinhbcncbfaaDoor
