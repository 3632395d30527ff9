/- The walks of the reader's full and thing. Printed by wip/bin/genqg.py. -/
import Derived.Test.YtmihinhbcncbfaaGreatDoorQe
import Derived.Test.YtmihinhbcncbfaaGreatDoorSk
namespace Go.Proofs.YtmihinhbcncbfaaGreatDoor
open Go.RowKit
/-- How many things there may be. -/
structure SmallS (x : SheetM) : Prop where
  s : x.stops.length ≤ 1024
  p : x.paths.length ≤ 1024
  d : x.doors.length ≤ 1024
  r : x.routes.length ≤ 1024
  t : x.trips.length ≤ 1024
  h : x.hazs.length ≤ 1024
theorem ShAt.forms {B b : Nat} {x : SheetM} {w : World} (h : ShAt B b x w) : ∃ (As : Option Addr) (cs : Nat) (Ap : Option Addr) (cp : Nat) (Ad : Option Addr) (cd : Nat) (Ar : Option Addr) (cr : Nat) (At : Option Addr) (ct : Nat) (Ah : Option Addr) (ch : Nat),
    x.vs = .slice As x.stops.length cs ∧ x.vp = .slice Ap x.paths.length cp ∧ x.vd = .slice Ad x.doors.length cd ∧ x.vr = .slice Ar x.routes.length cr ∧ x.vt = .slice At x.trips.length ct ∧ x.vh = .slice Ah x.hazs.length ch := by
  obtain ⟨As, cs, es⟩ := ow_slice nc_len h.s
  obtain ⟨Ap, cp, ep⟩ := ow_slice pc_len h.p
  obtain ⟨Ad, cd, ed⟩ := ow_slice dc_len h.d
  obtain ⟨Ar, cr, er⟩ := ow_slice rcN_len h.r
  obtain ⟨At, ct, et⟩ := ow_slice trc_len h.t
  obtain ⟨Ah, ch, eh⟩ := ow_slice hc_len h.h
  exact ⟨As, cs, Ap, cp, Ad, cd, Ar, cr, At, ct, Ah, ch, es, ep, ed, er, et, eh⟩
theorem d_len (x : SheetM) : x.d.routes.length = x.routes.length := by show (x.routes.map RouteM.d).length = _; rw [List.length_map]
set_option maxHeartbeats 4000000 in
set_option maxRecDepth 100000 in
theorem qfull_any (B b : Nat) (x : SheetM) (k : List UInt8) (w w0 : World) (h : ShAt B b x w0) (hk : k ∈ keysL) :
    Calls Tryz.prog 95 #[x.v, .string (ba k)] w fun e w' => e = .returned (.bool (fullD x.d k)) ∧ Below w.heap.size w w' := by
  obtain ⟨As, cs, Ap, cp, Ad, cd, Ar, cr, At, ct, Ah, ch, es, ep, ed, er, et, eh⟩ := h.forms
  unfold SheetM.v
  rw [es, ep, ed, er, et, eh]
  clear es ep ed er et eh h
  unfold keysL at hk
  simp only [List.mem_cons, List.not_mem_nil, or_false] at hk
  rcases hk with rfl | rfl | rfl | rfl | rfl | rfl
  · have HF := Lib.hid (show fullD x.d kStop = decide (256 ≤ x.stops.length) by unfold fullD; rw [if_pos rfl]; rfl)
    rw [HF.out, show ba kStop = ⟨#[115, 116, 111, 112]⟩ from rfl]
    clear HF
    go_enter Tryz.func95, Tryz.ntmps95
    go_wp2_with fail
    go_ret
    refine ⟨?_, (Below.refl _ _).alloc (Nat.le_refl _) _⟩
    first | rfl | (congr 2; first | rfl | (rw [Bool.eq_iff_iff]; simp; omega) | (simp; omega))
  · have HF := Lib.hid (show fullD x.d kPath = decide (1024 ≤ x.paths.length) by unfold fullD; rw [if_neg (by decide)]; rw [if_pos rfl]; rfl)
    rw [HF.out, show ba kPath = ⟨#[112, 97, 116, 104]⟩ from rfl]
    clear HF
    go_enter Tryz.func95, Tryz.ntmps95
    go_wp2_with fail
    go_ret
    refine ⟨?_, (Below.refl _ _).alloc (Nat.le_refl _) _⟩
    first | rfl | (congr 2; first | rfl | (rw [Bool.eq_iff_iff]; simp; omega) | (simp; omega))
  · have HF := Lib.hid (show fullD x.d kDoor = decide (256 ≤ x.doors.length) by unfold fullD; rw [if_neg (by decide)]; rw [if_neg (by decide)]; rw [if_pos rfl]; rfl)
    rw [HF.out, show ba kDoor = ⟨#[100, 111, 111, 114]⟩ from rfl]
    clear HF
    go_enter Tryz.func95, Tryz.ntmps95
    go_wp2_with fail
    go_ret
    refine ⟨?_, (Below.refl _ _).alloc (Nat.le_refl _) _⟩
    first | rfl | (congr 2; first | rfl | (rw [Bool.eq_iff_iff]; simp; omega) | (simp; omega))
  · have HF := Lib.hid (show fullD x.d kRoute = decide (256 ≤ x.routes.length) by unfold fullD; rw [if_neg (by decide)]; rw [if_neg (by decide)]; rw [if_neg (by decide)]; rw [if_pos rfl]; rw [d_len])
    rw [HF.out, show ba kRoute = ⟨#[114, 111, 117, 116, 101]⟩ from rfl]
    clear HF
    go_enter Tryz.func95, Tryz.ntmps95
    go_wp2_with fail
    go_ret
    refine ⟨?_, (Below.refl _ _).alloc (Nat.le_refl _) _⟩
    first | rfl | (congr 2; first | rfl | (rw [Bool.eq_iff_iff]; simp; omega) | (simp; omega))
  · have HF := Lib.hid (show fullD x.d kTrip = decide (1024 ≤ x.trips.length) by unfold fullD; rw [if_neg (by decide)]; rw [if_neg (by decide)]; rw [if_neg (by decide)]; rw [if_neg (by decide)]; rw [if_pos rfl]; rfl)
    rw [HF.out, show ba kTrip = ⟨#[116, 114, 105, 112]⟩ from rfl]
    clear HF
    go_enter Tryz.func95, Tryz.ntmps95
    go_wp2_with fail
    go_ret
    refine ⟨?_, (Below.refl _ _).alloc (Nat.le_refl _) _⟩
    first | rfl | (congr 2; first | rfl | (rw [Bool.eq_iff_iff]; simp; omega) | (simp; omega))
  · have HF := Lib.hid (show fullD x.d kHazard = decide (256 ≤ x.hazs.length) by unfold fullD; rw [if_neg (by decide)]; rw [if_neg (by decide)]; rw [if_neg (by decide)]; rw [if_neg (by decide)]; rw [if_neg (by decide)]; rw [if_pos rfl]; rfl)
    rw [HF.out, show ba kHazard = ⟨#[104, 97, 122, 97, 114, 100]⟩ from rfl]
    clear HF
    go_enter Tryz.func95, Tryz.ntmps95
    go_wp2_with fail
    go_ret
    refine ⟨?_, (Below.refl _ _).alloc (Nat.le_refl _) _⟩
    first | rfl | (congr 2; first | rfl | (rw [Bool.eq_iff_iff]; simp; omega) | (simp; omega))
theorem info_pathQ : (Tryz.prog.info? 31).map (fun i => (i.zero, i.size, i.bytes)) = some (some (.agg #[.string ByteArray.empty, .string ByteArray.empty, .string ByteArray.empty, .int .i64 0]), 4, 56) := by kernel_rfl
theorem info_doorQ : (Tryz.prog.info? 35).map (fun i => (i.zero, i.size, i.bytes)) = some (some (.agg #[.string ByteArray.empty, .string ByteArray.empty, .string ByteArray.empty, .int .i64 0, .int .i64 0, .int .i64 0, .int .i64 0]), 7, 80) := by kernel_rfl
theorem info_routeQ : (Tryz.prog.info? 38).map (fun i => (i.zero, i.size, i.bytes)) = some (some (.agg #[.string ByteArray.empty, .slice none 0 0, .slice none 0 0, .slice none 0 0]), 4, 88) := by kernel_rfl
theorem info_tripQ : (Tryz.prog.info? 40).map (fun i => (i.zero, i.size, i.bytes)) = some (some (.agg #[.string ByteArray.empty, .string ByteArray.empty, .int .i64 0, .int .i64 0, .int .i64 0]), 5, 56) := by kernel_rfl
theorem info_hazQ : (Tryz.prog.info? 42).map (fun i => (i.zero, i.size, i.bytes)) = some (some (.agg #[.string ByteArray.empty, .string ByteArray.empty, .int .i64 0, .int .i64 0, .int .i64 0]), 5, 56) := by kernel_rfl
/-- What a line behind its word leaves. -/
def Thing (B b : Nat) (v : Value) (L : List TokD) (r : Rd × SheetD) (w : World) (e : Ending) (w' : World) : Prop :=
  ∃ x' : SheetM, x'.d = r.2 ∧ e = .returned (.tuple #[]) ∧ RdOk b v L r.1 x'.xv w' ∧ ShAt B b x' w' ∧ Below b w w'
set_option maxHeartbeats 8000000 in
set_option maxRecDepth 100000 in
theorem qthing_stop (B b : Nat) (v : Value) (L : List TokD) (s : Rd) (x : SheetM) (w : World) (h : RdOk b v L s x.xv w) (hs : ShAt B b x w) (hm : SmallS x) :
    Calls Tryz.prog 96 #[.pointer (some ⟨b, 0, none⟩), .string (ba kStop)] w (Thing B b v L (thingD L s x.d kStop) w) := by
  obtain ⟨iS, hiS, hziS1, hziS2, hziS3⟩ := info_parts info_string
  have HLT := Lib.hid h.lt
  have hlen := hm.s
  have HO := Lib.hid h
  have HS := Lib.hid hs
  have HK := Lib.hid (Keep.refl b w)
  obtain ⟨⟨sN, nw⟩, hnw⟩ : ∃ r, nameD L s = r := ⟨_, rfl⟩
  have HTD := Lib.hid (show thingD L s x.d kStop = (sN, { x.d with stops := x.d.stops ++ [nw] }) by unfold thingD; rw [if_pos rfl]; rw [hnw])
  obtain ⟨A0, c0, ev⟩ := ow_slice nc_len hs.s
  rw [HTD.out, show ba kStop = ⟨#[115, 116, 111, 112]⟩ from rfl]
  clear HTD h hs hm
  go_enter Tryz.func96, Tryz.ntmps96
  go_upto_region 7 with fail
  have hSw : w.cell? ⟨b, 6, none⟩ = some (.slice A0 x.stops.length c0) := by rw [← ev]; exact Lib.cell_of_heap HO.out.R 6
  refine wp_region_kinds (fun wy => wy.cell? ⟨b, 6, none⟩ = some (.slice A0 x.stops.length c0)) [7, 8] [9, 13] [5] [0, 1, 2, 3, 4, 6, 10, 11, 12] [0, 1, 2, 3, 4, 5, 6, 7, 8, 9, 10, 11, 12, 13] (by kernel_rfl) (by kernel_rfl) (fun w n h => h) ?_
  repeat (first | (refine wpKind_free (v := ?_) (by rfl) rfl (by rfl) ?_ ?_; rotate_left 1; (focus (intro wy; go_simp; try with_reducible rfl; done)); try simp only [Act.put, List.setIfInBounds_toArray, List.set_cons_zero, List.set_cons_succ]) | (refine wpKind_held (v := ?_) (by rfl) rfl (by rfl) hSw ?_ ?_; rotate_left 1; (focus (intro wy hSy; have s0 := hSy; go_simp; try with_reducible rfl; done)); try simp only [Act.put, List.setIfInBounds_toArray, List.set_cons_zero, List.set_cons_succ]))
  clear hSw
  refine wpKind_keeps (by rfl) rfl (fun n1 => ?_)
  go_wp2_with fail
  refine (qname_any b v L s x.xv (w.drewN n1) (HO.out.drewN n1)).mono ?_
  rw [hnw]
  dsimp only
  rintro e w5 ⟨rfl, ho, hk⟩
  have HK5 := Lib.hid (((Keep.refl b w).drewN n1).trans hk)
  have HO5 := Lib.hid ho
  have HS5 := Lib.hid (HS.out.keep HK5.out)
  clear ho hk
  go_wp2_with fail
  show _ ∧ _
  refine ⟨by rw [← ev]; exact Lib.cell_of_heap HO5.out.R 6, ?_⟩
  refine wpKind_keeps (by rfl) rfl (fun n2 => ?_)
  go_wp2_with fail
  show _ ∧ _
  refine ⟨by rw [← ev]; exact Lib.cell_of_heap ((HO5.out.drewN n2).new ((Below.refl _ _).alloc (Nat.le_refl _) (.cells #[.string (ba nw)] 9))).R 6, ?_⟩
  refine wpKind_serial (by rfl) rfl (fun n3 => ?_)
  go_wp2_with (at_builtin; refine wpList_append_sl _ rfl _ _ _ rfl B 9 iS _ 16 Tryz.underlying22 hiS hziS1 hziS2 hziS3 rfl (by omega) nc_len nc_one _ _ x.stops [nw] rfl rfl ((ev ▸ (((HS5.out.drewN n2).alloc (.cells #[.string (ba nw)] 9)).drewN n3).s)) (((Sl.new1 nw rfl).drewN n3)) (by simp only [maxLen, List.length_cons, List.length_nil]; omega) (by simp only [List.length_cons, List.length_nil]; omega) ((((HS5.out.drewN n2).alloc (.cells #[.string (ba nw)] 9)).drewN n3).hB) ?_; intro v1 w6 hown1 hg1 hmv1; obtain ⟨A1, c1, rfl⟩ : ∃ A cap, v1 = .slice A (x.stops.length + 1) cap := (by obtain ⟨A, cap, e⟩ := ow_slice nc_len hown1; exact ⟨A, cap, by rw [e]; simp⟩))
  have HS6 := Lib.hid ((((HS5.out.drewN n2).alloc (.cells #[.string (ba nw)] 9)).drewN n3).put_s hown1 (ev.symm ▸ hg1) (ev.symm ▸ hmv1))
  have hnb : ∀ k, k ≤ b → some k ≠ Value.ownBlock (.slice A0 x.stops.length c0) := fun k hk e => by
    have h1 := (((((HS5.out.drewN n2).alloc (.cells #[.string (ba nw)] 9)).drewN n3).s).lt (k := k) (by rw [ev]; exact e.symm)).1
    have h2 := HS5.out.hb
    omega
  have hbl6 : ∀ k, k ≤ b → w6.heap[k]? = w5.heap[k]? := fun k hk => (hg1.block k (by have := HO5.out.lt; show k < ((w5.drewN n2).alloc (.cells #[.string (ba nw)] 9)).heap.size; rw [World.size_alloc]; show k < w5.heap.size + 1; omega) (hnb k hk)).trans (Below.heap_alloc _ _ _ (by have := HO5.out.lt; show k < w5.heap.size; omega))
  have HO6 := Lib.hid (HO5.out.frame (by have := hg1.size; rw [show ((((w5.drewN n2).alloc (.cells #[.string (ba nw)] 9)).drewN n3)).heap.size = w5.heap.size + 1 from World.size_alloc _ _] at this; omega) hbl6)
  have HBL6 := Lib.hid (show Below b w w6 from HK5.out.below.trans ((below_drewN ((below_drewN (Below.refl b w5) n2).alloc (Nat.le_of_lt HO5.out.lt) (.cells #[.string (ba nw)] 9)) n3).grown hg1 (by have := HO5.out.lt; show b ≤ ((w5.drewN n2).alloc (.cells #[.string (ba nw)] 9)).heap.size; rw [World.size_alloc]; show b ≤ w5.heap.size + 1; omega) (fun k hk => Nat.le_of_lt (Nat.lt_of_not_le fun hkb => hnb k hkb hk.symm))))
  have y1 : w6.cell? ⟨b, 6, none⟩ = some (.slice A0 x.stops.length c0) := by rw [← ev]; exact Lib.cell_of_heap HO6.out.R 6
  have y2 : w6.frozen? ⟨b, 6, none⟩ = false := Lib.frozen_of_heap HO6.out.R 6
  clear hown1 hg1 hmv1 hbl6 hnb
  repeat (first | (refine wpKind_free (v := ?_) (by rfl) rfl (by rfl) ?_ ?_; rotate_left 1; (focus (intro wy; go_simp; try with_reducible rfl; done)); try simp only [Act.put, List.setIfInBounds_toArray, List.set_cons_zero, List.set_cons_succ]) | (refine wpKind_held (v := ?_) (by rfl) rfl (by rfl) hSw ?_ ?_; rotate_left 1; (focus (intro wy hSy; have s0 := hSy; go_simp; try with_reducible rfl; done)); try simp only [Act.put, List.setIfInBounds_toArray, List.set_cons_zero, List.set_cons_succ]))
  refine wpKind_serial (by rfl) rfl (fun n4 => ?_)
  go_wp2_with fail
  clear y1 y2
  show wpKind _ _ _ _ _ _ _ _ _
  refine wpKind_nil fun n5 => ?_
  go_wp2_with fail
  go_end0
  exact ⟨{ x with vs := .slice A1 (x.stops.length + 1) c1, stops := x.stops ++ [nw] }, rfl, rfl, (HO6.out.drewN n4).next (RdAt.put_s (w := w6) HO6.out.R _ _) (((Keep.refl b (w6.drewN n4)).set 6 _).drewN n5) HO5.out.at_, HS6.out.same rfl, below_drewN ((below_drewN HBL6.out n4).setCell (p := ⟨b, 6, none⟩) (Nat.le_refl _) _) n5⟩
theorem ShAt.apart {B b : Nat} {x : SheetM} {w : World} (h : ShAt B b x w) {k : Nat} (hk : w.heap.size ≤ k) : apartP x B k :=
  ⟨Nat.le_trans h.hB hk, fun e => by have := (h.s.lt e.symm).2; omega, fun e => by have := (h.p.lt e.symm).2; omega, fun e => by have := (h.d.lt e.symm).2; omega, fun e => by have := (h.r.lt e.symm).2; omega, fun e => by have := (h.t.lt e.symm).2; omega, fun e => by have := (h.h.lt e.symm).2; omega⟩
set_option maxHeartbeats 8000000 in
set_option maxRecDepth 100000 in
theorem qthing_route (B b : Nat) (v : Value) (L : List TokD) (s : Rd) (x : SheetM) (w : World) (h : RdOk b v L s x.xv w) (hs : ShAt B b x w) (hm : SmallS x) :
    Calls Tryz.prog 96 #[.pointer (some ⟨b, 0, none⟩), .string (ba kRoute)] w (Thing B b v L (thingD L s x.d kRoute) w) := by
  obtain ⟨iR, hiR, hziR1, hziR2, hziR3⟩ := info_parts info_routeQ
  have HLT := Lib.hid h.lt
  have hlen := hm.r
  have HO := Lib.hid h
  have HS := Lib.hid hs
  have HK := Lib.hid (Keep.refl b w)
  obtain ⟨⟨sN, dN⟩, hnw⟩ : ∃ r, routeRD L s = r := ⟨_, rfl⟩
  have HTD := Lib.hid (show thingD L s x.d kRoute = (sN, { x.d with routes := x.d.routes ++ [dN] }) by unfold thingD; rw [if_neg (by decide)]; rw [if_neg (by decide)]; rw [if_neg (by decide)]; rw [if_pos rfl]; rw [hnw])
  obtain ⟨A0, c0, ev⟩ := ow_slice rcN_len hs.r
  rw [HTD.out, show ba kRoute = ⟨#[114, 111, 117, 116, 101]⟩ from rfl]
  clear HTD h hs hm
  go_enter Tryz.func96, Tryz.ntmps96
  go_upto_region 16 with fail
  have hSw : w.cell? ⟨b, 9, none⟩ = some (.slice A0 x.routes.length c0) := by rw [← ev]; exact Lib.cell_of_heap HO.out.R 9
  refine wp_region_kinds (fun wy => wy.cell? ⟨b, 9, none⟩ = some (.slice A0 x.routes.length c0)) [7, 8] [9, 13] [5] [0, 1, 2, 3, 4, 6, 10, 11, 12] [0, 1, 2, 3, 4, 5, 6, 7, 8, 9, 10, 11, 12, 13] (by kernel_rfl) (by kernel_rfl) (fun w n h => h) ?_
  repeat (first | (refine wpKind_free (v := ?_) (by rfl) rfl (by rfl) ?_ ?_; rotate_left 1; (focus (intro wy; go_simp; try with_reducible rfl; done)); try simp only [Act.put, List.setIfInBounds_toArray, List.set_cons_zero, List.set_cons_succ]) | (refine wpKind_held (v := ?_) (by rfl) rfl (by rfl) hSw ?_ ?_; rotate_left 1; (focus (intro wy hSy; have s0 := hSy; go_simp; try with_reducible rfl; done)); try simp only [Act.put, List.setIfInBounds_toArray, List.set_cons_zero, List.set_cons_succ]))
  clear hSw
  refine wpKind_keeps (by rfl) rfl (fun n1 => ?_)
  go_wp2_with fail
  refine (qroute_any b v L s x.xv (w.drewN n1) (HO.out.drewN n1)).mono ?_
  rw [hnw]
  dsimp only
  rintro e w5 ⟨⟨nm0, q1, q2, q3, ss0, rs0, ys0⟩, hd0, rfl, hg0, ho, hk⟩
  obtain ⟨D1, d1, e1, _, _⟩ := hg0.stops.shape
  obtain ⟨D2, d2, e2, _, _⟩ := hg0.rides.shape
  obtain ⟨D3, d3, e3, _, _⟩ := hg0.stays.shape
  dsimp only at e1 e2 e3
  subst e1 e2 e3
  have HD0 := Lib.hid hd0
  have HG0 := Lib.hid (hg0.mono (Q := apartP x B) fun k hk => HS.out.apart (show w.heap.size ≤ k from hk))
  clear hd0 hg0 hnw
  unfold rc
  have HK5 := Lib.hid (((Keep.refl b w).drewN n1).trans hk)
  have HO5 := Lib.hid ho
  have HS5 := Lib.hid (HS.out.keep HK5.out)
  clear ho hk
  go_wp2_with fail
  show _ ∧ _
  refine ⟨by rw [← ev]; exact Lib.cell_of_heap HO5.out.R 9, ?_⟩
  refine wpKind_keeps (by rfl) rfl (fun n2 => ?_)
  go_wp2_with fail
  show _ ∧ _
  refine ⟨by rw [← ev]; exact Lib.cell_of_heap ((HO5.out.drewN n2).new ((Below.refl _ _).alloc (Nat.le_refl _) (.cells #[.string (ba nm0), .slice D1 ss0.length d1, .slice D2 rs0.length d2, .slice D3 ys0.length d3] 38))).R 9, ?_⟩
  refine wpKind_serial (by rfl) rfl (fun n3 => ?_)
  go_wp2_with (at_builtin; refine wpList_append_sl _ rfl _ _ _ rfl B 38 iR _ 88 Tryz.underlying25 hiR hziR1 hziR2 hziR3 rfl (by omega) rcN_len rcN_one _ _ x.routes [(⟨nm0, .slice D1 ss0.length d1, .slice D2 rs0.length d2, .slice D3 ys0.length d3, ss0, rs0, ys0⟩ : RouteM)] rfl rfl ((ev ▸ (((HS5.out.drewN n2).alloc (.cells #[.string (ba nm0), .slice D1 ss0.length d1, .slice D2 rs0.length d2, .slice D3 ys0.length d3] 38)).drewN n3).r)) (((Sl.new1 (⟨nm0, .slice D1 ss0.length d1, .slice D2 rs0.length d2, .slice D3 ys0.length d3, ss0, rs0, ys0⟩ : RouteM) rfl).drewN n3)) (by simp only [maxLen, List.length_cons, List.length_nil]; omega) (by simp only [List.length_cons, List.length_nil]; omega) ((((HS5.out.drewN n2).alloc (.cells #[.string (ba nm0), .slice D1 ss0.length d1, .slice D2 rs0.length d2, .slice D3 ys0.length d3] 38)).drewN n3).hB) ?_; intro v1 w6 hown1 hg1 hmv1; obtain ⟨A1, c1, rfl⟩ : ∃ A cap, v1 = .slice A (x.routes.length + 1) cap := (by obtain ⟨A, cap, e⟩ := ow_slice rcN_len hown1; exact ⟨A, cap, by rw [e]; simp⟩))
  have HS6 := Lib.hid ((((HS5.out.drewN n2).alloc (.cells #[.string (ba nm0), .slice D1 ss0.length d1, .slice D2 rs0.length d2, .slice D3 ys0.length d3] 38)).drewN n3).put_r hown1 (ev.symm ▸ hg1) (ev.symm ▸ hmv1) ((HG0.out.keep (w' := ((w5.drewN n2).alloc (.cells #[.string (ba nm0), .slice D1 ss0.length d1, .slice D2 rs0.length d2, .slice D3 ys0.length d3] 38)).drewN n3) (by show w5.heap.size ≤ ((w5.drewN n2).alloc (.cells #[.string (ba nm0), .slice D1 ss0.length d1, .slice D2 rs0.length d2, .slice D3 ys0.length d3] 38)).heap.size; rw [World.size_alloc]; show w5.heap.size ≤ w5.heap.size + 1; omega) fun k hk _ => Below.heap_alloc _ _ _ (by show k < w5.heap.size; exact hk))))
  have hnb : ∀ k, k ≤ b → some k ≠ Value.ownBlock (.slice A0 x.routes.length c0) := fun k hk e => by
    have h1 := (((((HS5.out.drewN n2).alloc (.cells #[.string (ba nm0), .slice D1 ss0.length d1, .slice D2 rs0.length d2, .slice D3 ys0.length d3] 38)).drewN n3).r).lt (k := k) (by rw [ev]; exact e.symm)).1
    have h2 := HS5.out.hb
    omega
  have hbl6 : ∀ k, k ≤ b → w6.heap[k]? = w5.heap[k]? := fun k hk => (hg1.block k (by have := HO5.out.lt; show k < ((w5.drewN n2).alloc (.cells #[.string (ba nm0), .slice D1 ss0.length d1, .slice D2 rs0.length d2, .slice D3 ys0.length d3] 38)).heap.size; rw [World.size_alloc]; show k < w5.heap.size + 1; omega) (hnb k hk)).trans (Below.heap_alloc _ _ _ (by have := HO5.out.lt; show k < w5.heap.size; omega))
  have HO6 := Lib.hid (HO5.out.frame (by have := hg1.size; rw [show ((((w5.drewN n2).alloc (.cells #[.string (ba nm0), .slice D1 ss0.length d1, .slice D2 rs0.length d2, .slice D3 ys0.length d3] 38)).drewN n3)).heap.size = w5.heap.size + 1 from World.size_alloc _ _] at this; omega) hbl6)
  have HBL6 := Lib.hid (show Below b w w6 from HK5.out.below.trans ((below_drewN ((below_drewN (Below.refl b w5) n2).alloc (Nat.le_of_lt HO5.out.lt) (.cells #[.string (ba nm0), .slice D1 ss0.length d1, .slice D2 rs0.length d2, .slice D3 ys0.length d3] 38)) n3).grown hg1 (by have := HO5.out.lt; show b ≤ ((w5.drewN n2).alloc (.cells #[.string (ba nm0), .slice D1 ss0.length d1, .slice D2 rs0.length d2, .slice D3 ys0.length d3] 38)).heap.size; rw [World.size_alloc]; show b ≤ w5.heap.size + 1; omega) (fun k hk => Nat.le_of_lt (Nat.lt_of_not_le fun hkb => hnb k hkb hk.symm))))
  have y1 : w6.cell? ⟨b, 9, none⟩ = some (.slice A0 x.routes.length c0) := by rw [← ev]; exact Lib.cell_of_heap HO6.out.R 9
  have y2 : w6.frozen? ⟨b, 9, none⟩ = false := Lib.frozen_of_heap HO6.out.R 9
  clear hown1 hg1 hmv1 hbl6 hnb
  repeat (first | (refine wpKind_free (v := ?_) (by rfl) rfl (by rfl) ?_ ?_; rotate_left 1; (focus (intro wy; go_simp; try with_reducible rfl; done)); try simp only [Act.put, List.setIfInBounds_toArray, List.set_cons_zero, List.set_cons_succ]) | (refine wpKind_held (v := ?_) (by rfl) rfl (by rfl) hSw ?_ ?_; rotate_left 1; (focus (intro wy hSy; have s0 := hSy; go_simp; try with_reducible rfl; done)); try simp only [Act.put, List.setIfInBounds_toArray, List.set_cons_zero, List.set_cons_succ]))
  refine wpKind_serial (by rfl) rfl (fun n4 => ?_)
  go_wp2_with fail
  clear y1 y2
  show wpKind _ _ _ _ _ _ _ _ _
  refine wpKind_nil fun n5 => ?_
  go_wp2_with fail
  go_end0
  exact ⟨{ x with vr := .slice A1 (x.routes.length + 1) c1, routes := x.routes ++ [(⟨nm0, .slice D1 ss0.length d1, .slice D2 rs0.length d2, .slice D3 ys0.length d3, ss0, rs0, ys0⟩ : RouteM)] }, by simp [SheetM.d, ← HD0.out, RouteM.d], rfl, (HO6.out.drewN n4).next (RdAt.put_r (w := w6) HO6.out.R _ _) (((Keep.refl b (w6.drewN n4)).set 9 _).drewN n5) HO5.out.at_, HS6.out.same rfl, below_drewN ((below_drewN HBL6.out n4).setCell (p := ⟨b, 9, none⟩) (Nat.le_refl _) _) n5⟩
set_option maxHeartbeats 8000000 in
set_option maxRecDepth 100000 in
theorem qthing_path (B b : Nat) (v : Value) (L : List TokD) (s : Rd) (x : SheetM) (w : World) (h : RdOk b v L s x.xv w) (hs : ShAt B b x w) (hm : SmallS x) :
    Calls Tryz.prog 96 #[.pointer (some ⟨b, 0, none⟩), .string (ba kPath)] w (Thing B b v L (thingD L s x.d kPath) w) := by
  obtain ⟨iP, hiP, hziP1, hziP2, hziP3⟩ := info_parts info_pathQ
  have HLT := Lib.hid h.lt
  have hlen := hm.p
  have HO := Lib.hid h
  have HS := Lib.hid hs
  have HK := Lib.hid (Keep.refl b w)
  obtain ⟨⟨s1, na⟩, h1⟩ : ∃ r, nameD L s = r := ⟨_, rfl⟩
  obtain ⟨⟨s2, nb⟩, h2⟩ : ∃ r, nameD L s1 = r := ⟨_, rfl⟩
  obtain ⟨⟨s3, nc_⟩, h3⟩ : ∃ r, nameD L s2 = r := ⟨_, rfl⟩
  obtain ⟨⟨s4, nn⟩, h4⟩ : ∃ r, numD L s3 = r := ⟨_, rfl⟩
  obtain ⟨y, hy⟩ : ∃ y : PathD, (⟨na, nb, nc_, nn⟩ : PathD) = y := ⟨_, rfl⟩
  obtain ⟨rfl, rfl, rfl, rfl⟩ : na = y.name ∧ nb = y.a ∧ nc_ = y.b ∧ nn = y.len := by subst hy; exact ⟨rfl, rfl, rfl, rfl⟩
  have HTD := Lib.hid (show thingD L s x.d kPath = (s4, { x.d with paths := x.d.paths ++ [y] }) by unfold thingD; rw [if_neg (by decide)]; rw [if_pos rfl]; unfold pathRD; simp only [h1, h2, h3, h4, hy])
  obtain ⟨A0, c0, ev⟩ := ow_slice pc_len hs.p
  rw [HTD.out, show ba kPath = ⟨#[112, 97, 116, 104]⟩ from rfl]
  clear HTD h hs hm
  go_enter Tryz.func96, Tryz.ntmps96
  go_wp2_with fail
  refine (qname_any b v L s x.xv w HO.out).mono ?_
  rw [h1]
  dsimp only
  rintro e a1 ⟨rfl, ho, hk⟩
  have HO2 := Lib.hid ho
  have HK2 := Lib.hid (HK.out.trans hk)
  clear ho hk HO HK
  have HO := Lib.hid HO2.out
  have HK := Lib.hid HK2.out
  clear HO2 HK2
  go_wp2_with fail
  refine (qname_any b v L s1 x.xv a1 HO.out).mono ?_
  rw [h2]
  dsimp only
  rintro e a2 ⟨rfl, ho, hk⟩
  have HO2 := Lib.hid ho
  have HK2 := Lib.hid (HK.out.trans hk)
  clear ho hk HO HK
  have HO := Lib.hid HO2.out
  have HK := Lib.hid HK2.out
  clear HO2 HK2
  go_wp2_with fail
  refine (qname_any b v L s2 x.xv a2 HO.out).mono ?_
  rw [h3]
  dsimp only
  rintro e a3 ⟨rfl, ho, hk⟩
  have HO2 := Lib.hid ho
  have HK2 := Lib.hid (HK.out.trans hk)
  clear ho hk HO HK
  have HO := Lib.hid HO2.out
  have HK := Lib.hid HK2.out
  clear HO2 HK2
  go_wp2_with fail
  refine (qnum_any b v L s3 x.xv a3 HO.out).mono ?_
  rw [h4]
  dsimp only
  rintro e a4 ⟨rfl, ho, hk⟩
  have HO2 := Lib.hid ho
  have HK2 := Lib.hid (HK.out.trans hk)
  clear ho hk HO HK
  have HO := Lib.hid HO2.out
  have HK := Lib.hid HK2.out
  clear HO2 HK2
  clear h1 h2 h3 h4
  go_upto_region 10 with fail
  obtain ⟨g, hgq⟩ : ∃ g, a4.heap.size = g := ⟨_, rfl⟩
  obtain ⟨a5, hw⟩ : ∃ w9, a4.alloc (.cells #[.string (ba y.name), .string (ba y.a), .string (ba y.b), .int .i64 y.len] 31) = w9 := ⟨_, rfl⟩
  have hbw : Below a4.heap.size a4 a5 := by rw [← hw]; exact (Below.refl _ _).alloc (Nat.le_refl _) _
  have HE := Lib.hid (show a5.heap[g]? = some (.cells #[.string (ba y.name), .string (ba y.a), .string (ba y.b), .int .i64 y.len] 31 (0, 0)) by rw [← hw, ← hgq]; exact heap_alloc_new _ _)
  have HGB := Lib.hid (show b < g by have := HO.out.lt; omega)
  have HGW := Lib.hid (show w.heap.size ≤ g by have := HK.out.size; omega)
  have HO2 := Lib.hid (HO.out.new hbw)
  have HK2 := Lib.hid (HK.out.trans (Keep.of hbw (Nat.le_of_lt HO.out.lt)))
  rw [hw, hgq]
  clear hw hbw HO HK hgq
  have HO := Lib.hid HO2.out
  have HK := Lib.hid HK2.out
  clear HO2 HK2
  go_upto_region 10 with fail
  have HC := Lib.hid (fun (wy : World) (hy : Below a5.heap.size a5 wy) => (show wy.cell? ⟨b, 7, none⟩ = some (.slice A0 x.paths.length c0) ∧ wy.cell? ⟨g, 0, none⟩ = some (.string (ba y.name)) ∧ wy.cell? ⟨g, 1, none⟩ = some (.string (ba y.a)) ∧ wy.cell? ⟨g, 2, none⟩ = some (.string (ba y.b)) ∧ wy.cell? ⟨g, 3, none⟩ = some (.int .i64 y.len) ∧ True ∧ True ∧ True from ⟨(hy.cell (p := ⟨b, 7, none⟩) HO.out.lt).trans (by rw [← ev]; exact Lib.cell_of_heap HO.out.R 7), (hy.cell (p := ⟨g, 0, none⟩) (Array.getElem?_eq_some_iff.1 HE.out).1).trans (Lib.cell_of_heap HE.out 0), (hy.cell (p := ⟨g, 1, none⟩) (Array.getElem?_eq_some_iff.1 HE.out).1).trans (Lib.cell_of_heap HE.out 1), (hy.cell (p := ⟨g, 2, none⟩) (Array.getElem?_eq_some_iff.1 HE.out).1).trans (Lib.cell_of_heap HE.out 2), (hy.cell (p := ⟨g, 3, none⟩) (Array.getElem?_eq_some_iff.1 HE.out).1).trans (Lib.cell_of_heap HE.out 3), trivial, trivial, trivial⟩))
  have hSw : Below a5.heap.size a5 a5 := Below.refl _ _
  have HS5 := Lib.hid (HS.out.keep HK.out)
  refine wp_region_kinds (fun wy => Below a5.heap.size a5 wy) [7] [8, 12] [5, 6] [0, 1, 2, 3, 4, 9, 10, 11] [0, 1, 2, 3, 4, 5, 6, 7, 8, 9, 10, 11, 12] (by kernel_rfl) (by kernel_rfl) (fun w n h => below_drewN h n) ?_
  repeat (first | (refine wpKind_free (v := ?_) (by rfl) rfl (by rfl) ?_ ?_; rotate_left 1; (focus (intro wy; go_simp; try with_reducible rfl; done)); try simp only [Act.put, List.setIfInBounds_toArray, List.set_cons_zero, List.set_cons_succ]) | (refine wpKind_held (v := ?_) (by rfl) rfl (by rfl) hSw ?_ ?_; rotate_left 1; (focus (intro wy hSy; obtain ⟨s0, s1, s2, s3, s4, s5, s6, s7⟩ := HC.out wy hSy; go_simp; try with_reducible rfl; done)); try simp only [Act.put, List.setIfInBounds_toArray, List.set_cons_zero, List.set_cons_succ]))
  clear hSw HC
  refine wpKind_keeps (by rfl) rfl (fun n2 => ?_)
  go_wp2_with fail
  show _ ∧ _
  refine ⟨(below_drewN (Below.refl _ _) n2).alloc (Nat.le_refl _) _, ?_⟩
  refine wpKind_serial (by rfl) rfl (fun n3 => ?_)
  go_wp2_with (at_builtin; refine wpList_append_sl _ rfl _ _ _ rfl B 31 iP _ 56 Tryz.underlying23 hiP hziP1 hziP2 hziP3 rfl (by omega) pc_len pc_one _ _ x.paths [y] rfl rfl ((ev ▸ (((HS5.out.drewN n2).alloc (.cells #[.string (ba y.name), .string (ba y.a), .string (ba y.b), .int .i64 y.len] 31)).drewN n3).p)) (((Sl.new1 y rfl).drewN n3)) (by simp only [maxLen, List.length_cons, List.length_nil]; omega) (by simp only [List.length_cons, List.length_nil]; omega) ((((HS5.out.drewN n2).alloc (.cells #[.string (ba y.name), .string (ba y.a), .string (ba y.b), .int .i64 y.len] 31)).drewN n3).hB) ?_; intro v1 w6 hown1 hg1 hmv1; obtain ⟨A1, c1, rfl⟩ : ∃ A cap, v1 = .slice A (x.paths.length + 1) cap := (by obtain ⟨A, cap, e⟩ := ow_slice pc_len hown1; exact ⟨A, cap, by rw [e]; simp⟩))
  have HS6 := Lib.hid ((((HS5.out.drewN n2).alloc (.cells #[.string (ba y.name), .string (ba y.a), .string (ba y.b), .int .i64 y.len] 31)).drewN n3).put_p hown1 (ev.symm ▸ hg1) (ev.symm ▸ hmv1))
  have hnb : ∀ k, k ≤ b → some k ≠ Value.ownBlock (.slice A0 x.paths.length c0) := fun k hk e => by
    have h1 := (((((HS5.out.drewN n2).alloc (.cells #[.string (ba y.name), .string (ba y.a), .string (ba y.b), .int .i64 y.len] 31)).drewN n3).p).lt (k := k) (by rw [ev]; exact e.symm)).1
    have h2 := HS5.out.hb
    omega
  have hbl6 : ∀ k, k ≤ b → w6.heap[k]? = a5.heap[k]? := fun k hk => (hg1.block k (by have := HO.out.lt; show k < ((a5.drewN n2).alloc (.cells #[.string (ba y.name), .string (ba y.a), .string (ba y.b), .int .i64 y.len] 31)).heap.size; rw [World.size_alloc]; show k < a5.heap.size + 1; omega) (hnb k hk)).trans (Below.heap_alloc _ _ _ (by have := HO.out.lt; show k < a5.heap.size; omega))
  have HO6 := Lib.hid (HO.out.frame (by have := hg1.size; rw [show ((((a5.drewN n2).alloc (.cells #[.string (ba y.name), .string (ba y.a), .string (ba y.b), .int .i64 y.len] 31)).drewN n3)).heap.size = a5.heap.size + 1 from World.size_alloc _ _] at this; omega) hbl6)
  have HBL6 := Lib.hid (show Below b w w6 from HK.out.below.trans ((below_drewN ((below_drewN (Below.refl b a5) n2).alloc (Nat.le_of_lt HO.out.lt) (.cells #[.string (ba y.name), .string (ba y.a), .string (ba y.b), .int .i64 y.len] 31)) n3).grown hg1 (by have := HO.out.lt; show b ≤ ((a5.drewN n2).alloc (.cells #[.string (ba y.name), .string (ba y.a), .string (ba y.b), .int .i64 y.len] 31)).heap.size; rw [World.size_alloc]; show b ≤ a5.heap.size + 1; omega) (fun k hk => Nat.le_of_lt (Nat.lt_of_not_le fun hkb => hnb k hkb hk.symm))))
  have y1 : w6.cell? ⟨b, 7, none⟩ = some (.slice A0 x.paths.length c0) := by rw [← ev]; exact Lib.cell_of_heap HO6.out.R 7
  have y2 : w6.frozen? ⟨b, 7, none⟩ = false := Lib.frozen_of_heap HO6.out.R 7
  clear hown1 hg1 hmv1 hbl6 hnb
  repeat (first | (refine wpKind_free (v := ?_) (by rfl) rfl (by rfl) ?_ ?_; rotate_left 1; (focus (intro wy; go_simp; try with_reducible rfl; done)); try simp only [Act.put, List.setIfInBounds_toArray, List.set_cons_zero, List.set_cons_succ]) | (refine wpKind_held (v := ?_) (by rfl) rfl (by rfl) hSw ?_ ?_; rotate_left 1; (focus (intro wy hSy; have s0 := hSy; go_simp; try with_reducible rfl; done)); try simp only [Act.put, List.setIfInBounds_toArray, List.set_cons_zero, List.set_cons_succ]))
  refine wpKind_serial (by rfl) rfl (fun n4 => ?_)
  go_wp2_with fail
  clear y1 y2
  show wpKind _ _ _ _ _ _ _ _ _
  refine wpKind_nil fun n5 => ?_
  go_wp2_with fail
  go_end0
  exact ⟨{ x with vp := .slice A1 (x.paths.length + 1) c1, paths := x.paths ++ [y] }, rfl, rfl, (HO6.out.drewN n4).next (RdAt.put_p (w := w6) HO6.out.R _ _) (((Keep.refl b (w6.drewN n4)).set 7 _).drewN n5) HO.out.at_, HS6.out.same rfl, below_drewN ((below_drewN HBL6.out n4).setCell (p := ⟨b, 7, none⟩) (Nat.le_refl _) _) n5⟩
set_option maxHeartbeats 8000000 in
set_option maxRecDepth 100000 in
theorem qthing_door (B b : Nat) (v : Value) (L : List TokD) (s : Rd) (x : SheetM) (w : World) (h : RdOk b v L s x.xv w) (hs : ShAt B b x w) (hm : SmallS x) :
    Calls Tryz.prog 96 #[.pointer (some ⟨b, 0, none⟩), .string (ba kDoor)] w (Thing B b v L (thingD L s x.d kDoor) w) := by
  obtain ⟨iD, hiD, hziD1, hziD2, hziD3⟩ := info_parts info_doorQ
  have HLT := Lib.hid h.lt
  have hlen := hm.d
  have HO := Lib.hid h
  have HS := Lib.hid hs
  have HK := Lib.hid (Keep.refl b w)
  obtain ⟨⟨s1, na⟩, h1⟩ : ∃ r, nameD L s = r := ⟨_, rfl⟩
  obtain ⟨⟨s2, nb⟩, h2⟩ : ∃ r, nameD L s1 = r := ⟨_, rfl⟩
  obtain ⟨⟨s3, nc_⟩, h3⟩ : ∃ r, nameD L s2 = r := ⟨_, rfl⟩
  obtain ⟨⟨s4, nn⟩, h4⟩ : ∃ r, numD L s3 = r := ⟨_, rfl⟩
  obtain ⟨⟨s5, tt⟩, h5⟩ : ∃ r, timesRD L s4 kOpen = r := ⟨_, rfl⟩
  obtain ⟨y, hy⟩ : ∃ y : DoorD, (⟨na, nb, nc_, nn, tt⟩ : DoorD) = y := ⟨_, rfl⟩
  obtain ⟨rfl, rfl, rfl, rfl, rfl⟩ : na = y.name ∧ nb = y.a ∧ nc_ = y.b ∧ nn = y.len ∧ tt = y.times := by subst hy; exact ⟨rfl, rfl, rfl, rfl, rfl⟩
  have HTD := Lib.hid (show thingD L s x.d kDoor = (s5, { x.d with doors := x.d.doors ++ [y] }) by unfold thingD; rw [if_neg (by decide)]; rw [if_neg (by decide)]; rw [if_pos rfl]; unfold doorRD pathRD; simp only [h1, h2, h3, h4, h5, hy])
  obtain ⟨A0, c0, ev⟩ := ow_slice dc_len hs.d
  rw [HTD.out, show ba kDoor = ⟨#[100, 111, 111, 114]⟩ from rfl]
  clear HTD h hs hm
  go_enter Tryz.func96, Tryz.ntmps96
  go_wp2_with fail
  refine (qname_any b v L s x.xv w HO.out).mono ?_
  rw [h1]
  dsimp only
  rintro e a6 ⟨rfl, ho, hk⟩
  have HO2 := Lib.hid ho
  have HK2 := Lib.hid (HK.out.trans hk)
  clear ho hk HO HK
  have HO := Lib.hid HO2.out
  have HK := Lib.hid HK2.out
  clear HO2 HK2
  go_wp2_with fail
  refine (qname_any b v L s1 x.xv a6 HO.out).mono ?_
  rw [h2]
  dsimp only
  rintro e a7 ⟨rfl, ho, hk⟩
  have HO2 := Lib.hid ho
  have HK2 := Lib.hid (HK.out.trans hk)
  clear ho hk HO HK
  have HO := Lib.hid HO2.out
  have HK := Lib.hid HK2.out
  clear HO2 HK2
  go_wp2_with fail
  refine (qname_any b v L s2 x.xv a7 HO.out).mono ?_
  rw [h3]
  dsimp only
  rintro e a8 ⟨rfl, ho, hk⟩
  have HO2 := Lib.hid ho
  have HK2 := Lib.hid (HK.out.trans hk)
  clear ho hk HO HK
  have HO := Lib.hid HO2.out
  have HK := Lib.hid HK2.out
  clear HO2 HK2
  go_wp2_with fail
  refine (qnum_any b v L s3 x.xv a8 HO.out).mono ?_
  rw [h4]
  dsimp only
  rintro e a9 ⟨rfl, ho, hk⟩
  have HO2 := Lib.hid ho
  have HK2 := Lib.hid (HK.out.trans hk)
  clear ho hk HO HK
  have HO := Lib.hid HO2.out
  have HK := Lib.hid HK2.out
  clear HO2 HK2
  have hti := fun W h => qtimes_any b v L s4 x.xv kOpen W h
  simp only [h5] at hti
  rw [show ba kOpen = ⟨#[111, 112, 101, 110]⟩ from rfl] at hti
  dsimp only [tc] at hti
  have HTI := Lib.hid hti
  clear h1 h2 h3 h4 h5 hti
  go_upto_region 13 with fail
  obtain ⟨g, hgq⟩ : ∃ g, a9.heap.size = g := ⟨_, rfl⟩
  obtain ⟨a10, hw⟩ : ∃ w9, a9.alloc (.cells #[.string (ba y.name), .string (ba y.a), .string (ba y.b), .int .i64 y.len, .int .i64 0, .int .i64 0, .int .i64 0] 35) = w9 := ⟨_, rfl⟩
  have hbw : Below a9.heap.size a9 a10 := by rw [← hw]; exact (Below.refl _ _).alloc (Nat.le_refl _) _
  have HE := Lib.hid (show a10.heap[g]? = some (.cells #[.string (ba y.name), .string (ba y.a), .string (ba y.b), .int .i64 y.len, .int .i64 0, .int .i64 0, .int .i64 0] 35 (0, 0)) by rw [← hw, ← hgq]; exact heap_alloc_new _ _)
  have HGB := Lib.hid (show b < g by have := HO.out.lt; omega)
  have HGW := Lib.hid (show w.heap.size ≤ g by have := HK.out.size; omega)
  have HO2 := Lib.hid (HO.out.new hbw)
  have HK2 := Lib.hid (HK.out.trans (Keep.of hbw (Nat.le_of_lt HO.out.lt)))
  rw [hw, hgq]
  clear hw hbw HO HK hgq
  have HO := Lib.hid HO2.out
  have HK := Lib.hid HK2.out
  clear HO2 HK2
  go_wp2_with fail
  refine (HTI.out a10 HO.out).mono ?_
  rintro e a11 ⟨rfl, ho, hk⟩
  have HE2 := Lib.hid ((hk.block g (Array.getElem?_eq_some_iff.1 HE.out).1 (by have := HGB.out; omega)).trans HE.out)
  clear HE
  have HE := Lib.hid HE2.out
  clear HE2
  have HO2 := Lib.hid ho
  have HK2 := Lib.hid (HK.out.trans hk)
  clear ho hk HO HK
  have HO := Lib.hid HO2.out
  have HK := Lib.hid HK2.out
  clear HO2 HK2
  have y1 : a11.cell? ⟨g, 4, none⟩ = some (.int .i64 0) := Lib.cell_of_heap HE.out 4
  have y2 : a11.frozen? ⟨g, 4, none⟩ = false := Lib.frozen_of_heap HE.out 4
  have y3 : a11.cell? ⟨g, 5, none⟩ = some (.int .i64 0) := Lib.cell_of_heap HE.out 5
  have y4 : a11.frozen? ⟨g, 5, none⟩ = false := Lib.frozen_of_heap HE.out 5
  have y5 : a11.cell? ⟨g, 6, none⟩ = some (.int .i64 0) := Lib.cell_of_heap HE.out 6
  have y6 : a11.frozen? ⟨g, 6, none⟩ = false := Lib.frozen_of_heap HE.out 6
  go_upto_region 14 with fail
  clear y1 y2 y3 y4 y5 y6
  obtain ⟨a12, hw⟩ : ∃ w9, ((a11.setCell ⟨g, 4, none⟩ (.int .i64 y.times.start)).setCell ⟨g, 5, none⟩ (.int .i64 y.times.every)).setCell ⟨g, 6, none⟩ (.int .i64 y.times.len) = w9 := ⟨_, rfl⟩
  have HE2 := Lib.hid (show a12.heap[g]? = some (.cells #[.string (ba y.name), .string (ba y.a), .string (ba y.b), .int .i64 y.len, .int .i64 y.times.start, .int .i64 y.times.every, .int .i64 y.times.len] 35 (0, 0)) by
    rw [← hw]
    exact heap_setCell_same _ g 6 _ _ _ (heap_setCell_same _ g 5 _ _ _ (heap_setCell_same a11 g 4 _ _ _ HE.out)))
  have HO2 := Lib.hid (show RdOk b v L s5 x.xv a12 by rw [← hw]; exact ((HO.out.set HGB.out 4 _).set HGB.out 5 _).set HGB.out 6 _)
  have HK2 := Lib.hid (show Keep b w a12 by rw [← hw]; exact ((HK.out.newSet HGW.out (Nat.le_of_lt HLT.out) 4 _).newSet HGW.out (Nat.le_of_lt HLT.out) 5 _).newSet HGW.out (Nat.le_of_lt HLT.out) 6 _)
  rw [hw]
  clear hw HO HK HE
  have HO := Lib.hid HO2.out
  have HK := Lib.hid HK2.out
  have HE := Lib.hid HE2.out
  clear HO2 HK2 HE2
  go_upto_region 14 with fail
  have HC := Lib.hid (fun (wy : World) (hy : Below a12.heap.size a12 wy) => (show wy.cell? ⟨b, 8, none⟩ = some (.slice A0 x.doors.length c0) ∧ wy.cell? ⟨g, 0, none⟩ = some (.string (ba y.name)) ∧ wy.cell? ⟨g, 1, none⟩ = some (.string (ba y.a)) ∧ wy.cell? ⟨g, 2, none⟩ = some (.string (ba y.b)) ∧ wy.cell? ⟨g, 3, none⟩ = some (.int .i64 y.len) ∧ wy.cell? ⟨g, 4, none⟩ = some (.int .i64 y.times.start) ∧ wy.cell? ⟨g, 5, none⟩ = some (.int .i64 y.times.every) ∧ wy.cell? ⟨g, 6, none⟩ = some (.int .i64 y.times.len) from ⟨(hy.cell (p := ⟨b, 8, none⟩) HO.out.lt).trans (by rw [← ev]; exact Lib.cell_of_heap HO.out.R 8), (hy.cell (p := ⟨g, 0, none⟩) (Array.getElem?_eq_some_iff.1 HE.out).1).trans (Lib.cell_of_heap HE.out 0), (hy.cell (p := ⟨g, 1, none⟩) (Array.getElem?_eq_some_iff.1 HE.out).1).trans (Lib.cell_of_heap HE.out 1), (hy.cell (p := ⟨g, 2, none⟩) (Array.getElem?_eq_some_iff.1 HE.out).1).trans (Lib.cell_of_heap HE.out 2), (hy.cell (p := ⟨g, 3, none⟩) (Array.getElem?_eq_some_iff.1 HE.out).1).trans (Lib.cell_of_heap HE.out 3), (hy.cell (p := ⟨g, 4, none⟩) (Array.getElem?_eq_some_iff.1 HE.out).1).trans (Lib.cell_of_heap HE.out 4), (hy.cell (p := ⟨g, 5, none⟩) (Array.getElem?_eq_some_iff.1 HE.out).1).trans (Lib.cell_of_heap HE.out 5), (hy.cell (p := ⟨g, 6, none⟩) (Array.getElem?_eq_some_iff.1 HE.out).1).trans (Lib.cell_of_heap HE.out 6)⟩))
  have hSw : Below a12.heap.size a12 a12 := Below.refl _ _
  have HS5 := Lib.hid (HS.out.keep HK.out)
  refine wp_region_kinds (fun wy => Below a12.heap.size a12 wy) [7] [8, 12] [5, 6] [0, 1, 2, 3, 4, 9, 10, 11] [0, 1, 2, 3, 4, 5, 6, 7, 8, 9, 10, 11, 12] (by kernel_rfl) (by kernel_rfl) (fun w n h => below_drewN h n) ?_
  repeat (first | (refine wpKind_free (v := ?_) (by rfl) rfl (by rfl) ?_ ?_; rotate_left 1; (focus (intro wy; go_simp; try with_reducible rfl; done)); try simp only [Act.put, List.setIfInBounds_toArray, List.set_cons_zero, List.set_cons_succ]) | (refine wpKind_held (v := ?_) (by rfl) rfl (by rfl) hSw ?_ ?_; rotate_left 1; (focus (intro wy hSy; obtain ⟨s0, s1, s2, s3, s4, s5, s6, s7⟩ := HC.out wy hSy; go_simp; try with_reducible rfl; done)); try simp only [Act.put, List.setIfInBounds_toArray, List.set_cons_zero, List.set_cons_succ]))
  clear hSw HC
  refine wpKind_keeps (by rfl) rfl (fun n2 => ?_)
  go_wp2_with fail
  show _ ∧ _
  refine ⟨(below_drewN (Below.refl _ _) n2).alloc (Nat.le_refl _) _, ?_⟩
  refine wpKind_serial (by rfl) rfl (fun n3 => ?_)
  go_wp2_with (at_builtin; refine wpList_append_sl _ rfl _ _ _ rfl B 35 iD _ 80 Tryz.underlying24 hiD hziD1 hziD2 hziD3 rfl (by omega) dc_len dc_one _ _ x.doors [y] rfl rfl ((ev ▸ (((HS5.out.drewN n2).alloc (.cells #[.string (ba y.name), .string (ba y.a), .string (ba y.b), .int .i64 y.len, .int .i64 y.times.start, .int .i64 y.times.every, .int .i64 y.times.len] 35)).drewN n3).d)) (((Sl.new1 y rfl).drewN n3)) (by simp only [maxLen, List.length_cons, List.length_nil]; omega) (by simp only [List.length_cons, List.length_nil]; omega) ((((HS5.out.drewN n2).alloc (.cells #[.string (ba y.name), .string (ba y.a), .string (ba y.b), .int .i64 y.len, .int .i64 y.times.start, .int .i64 y.times.every, .int .i64 y.times.len] 35)).drewN n3).hB) ?_; intro v1 w6 hown1 hg1 hmv1; obtain ⟨A1, c1, rfl⟩ : ∃ A cap, v1 = .slice A (x.doors.length + 1) cap := (by obtain ⟨A, cap, e⟩ := ow_slice dc_len hown1; exact ⟨A, cap, by rw [e]; simp⟩))
  have HS6 := Lib.hid ((((HS5.out.drewN n2).alloc (.cells #[.string (ba y.name), .string (ba y.a), .string (ba y.b), .int .i64 y.len, .int .i64 y.times.start, .int .i64 y.times.every, .int .i64 y.times.len] 35)).drewN n3).put_d hown1 (ev.symm ▸ hg1) (ev.symm ▸ hmv1))
  have hnb : ∀ k, k ≤ b → some k ≠ Value.ownBlock (.slice A0 x.doors.length c0) := fun k hk e => by
    have h1 := (((((HS5.out.drewN n2).alloc (.cells #[.string (ba y.name), .string (ba y.a), .string (ba y.b), .int .i64 y.len, .int .i64 y.times.start, .int .i64 y.times.every, .int .i64 y.times.len] 35)).drewN n3).d).lt (k := k) (by rw [ev]; exact e.symm)).1
    have h2 := HS5.out.hb
    omega
  have hbl6 : ∀ k, k ≤ b → w6.heap[k]? = a12.heap[k]? := fun k hk => (hg1.block k (by have := HO.out.lt; show k < ((a12.drewN n2).alloc (.cells #[.string (ba y.name), .string (ba y.a), .string (ba y.b), .int .i64 y.len, .int .i64 y.times.start, .int .i64 y.times.every, .int .i64 y.times.len] 35)).heap.size; rw [World.size_alloc]; show k < a12.heap.size + 1; omega) (hnb k hk)).trans (Below.heap_alloc _ _ _ (by have := HO.out.lt; show k < a12.heap.size; omega))
  have HO6 := Lib.hid (HO.out.frame (by have := hg1.size; rw [show ((((a12.drewN n2).alloc (.cells #[.string (ba y.name), .string (ba y.a), .string (ba y.b), .int .i64 y.len, .int .i64 y.times.start, .int .i64 y.times.every, .int .i64 y.times.len] 35)).drewN n3)).heap.size = a12.heap.size + 1 from World.size_alloc _ _] at this; omega) hbl6)
  have HBL6 := Lib.hid (show Below b w w6 from HK.out.below.trans ((below_drewN ((below_drewN (Below.refl b a12) n2).alloc (Nat.le_of_lt HO.out.lt) (.cells #[.string (ba y.name), .string (ba y.a), .string (ba y.b), .int .i64 y.len, .int .i64 y.times.start, .int .i64 y.times.every, .int .i64 y.times.len] 35)) n3).grown hg1 (by have := HO.out.lt; show b ≤ ((a12.drewN n2).alloc (.cells #[.string (ba y.name), .string (ba y.a), .string (ba y.b), .int .i64 y.len, .int .i64 y.times.start, .int .i64 y.times.every, .int .i64 y.times.len] 35)).heap.size; rw [World.size_alloc]; show b ≤ a12.heap.size + 1; omega) (fun k hk => Nat.le_of_lt (Nat.lt_of_not_le fun hkb => hnb k hkb hk.symm))))
  have y1 : w6.cell? ⟨b, 8, none⟩ = some (.slice A0 x.doors.length c0) := by rw [← ev]; exact Lib.cell_of_heap HO6.out.R 8
  have y2 : w6.frozen? ⟨b, 8, none⟩ = false := Lib.frozen_of_heap HO6.out.R 8
  clear hown1 hg1 hmv1 hbl6 hnb
  repeat (first | (refine wpKind_free (v := ?_) (by rfl) rfl (by rfl) ?_ ?_; rotate_left 1; (focus (intro wy; go_simp; try with_reducible rfl; done)); try simp only [Act.put, List.setIfInBounds_toArray, List.set_cons_zero, List.set_cons_succ]) | (refine wpKind_held (v := ?_) (by rfl) rfl (by rfl) hSw ?_ ?_; rotate_left 1; (focus (intro wy hSy; have s0 := hSy; go_simp; try with_reducible rfl; done)); try simp only [Act.put, List.setIfInBounds_toArray, List.set_cons_zero, List.set_cons_succ]))
  refine wpKind_serial (by rfl) rfl (fun n4 => ?_)
  go_wp2_with fail
  clear y1 y2
  show wpKind _ _ _ _ _ _ _ _ _
  refine wpKind_nil fun n5 => ?_
  go_wp2_with fail
  go_end0
  exact ⟨{ x with vd := .slice A1 (x.doors.length + 1) c1, doors := x.doors ++ [y] }, rfl, rfl, (HO6.out.drewN n4).next (RdAt.put_d (w := w6) HO6.out.R _ _) (((Keep.refl b (w6.drewN n4)).set 8 _).drewN n5) HO.out.at_, HS6.out.same rfl, below_drewN ((below_drewN HBL6.out n4).setCell (p := ⟨b, 8, none⟩) (Nat.le_refl _) _) n5⟩
set_option maxHeartbeats 8000000 in
set_option maxRecDepth 100000 in
theorem qthing_trip (B b : Nat) (v : Value) (L : List TokD) (s : Rd) (x : SheetM) (w : World) (h : RdOk b v L s x.xv w) (hs : ShAt B b x w) (hm : SmallS x) :
    Calls Tryz.prog 96 #[.pointer (some ⟨b, 0, none⟩), .string (ba kTrip)] w (Thing B b v L (thingD L s x.d kTrip) w) := by
  obtain ⟨iT, hiT, hziT1, hziT2, hziT3⟩ := info_parts info_tripQ
  have HLT := Lib.hid h.lt
  have hlen := hm.t
  have HO := Lib.hid h
  have HS := Lib.hid hs
  have HK := Lib.hid (Keep.refl b w)
  obtain ⟨⟨s1, na⟩, h1⟩ : ∃ r, nameD L s = r := ⟨_, rfl⟩
  obtain ⟨s2, h2⟩ : ∃ r, keyD L s1 kOf = r := ⟨_, rfl⟩
  obtain ⟨⟨s3, nb⟩, h3⟩ : ∃ r, nameD L s2 = r := ⟨_, rfl⟩
  obtain ⟨⟨s4, n1⟩, h4⟩ : ∃ r, afterD L s3 kFrom = r := ⟨_, rfl⟩
  obtain ⟨⟨s5, n2⟩, h5⟩ : ∃ r, afterD L s4 kEvery = r := ⟨_, rfl⟩
  obtain ⟨⟨s6, n3⟩, h6⟩ : ∃ r, afterD L s5 kUntil = r := ⟨_, rfl⟩
  obtain ⟨y, hy⟩ : ∃ y : TripD, (⟨na, nb, n1, n2, n3⟩ : TripD) = y := ⟨_, rfl⟩
  obtain ⟨rfl, rfl, rfl, rfl, rfl⟩ : na = y.name ∧ nb = y.route ∧ n1 = y.start ∧ n2 = y.every ∧ n3 = y.stop := by subst hy; exact ⟨rfl, rfl, rfl, rfl, rfl⟩
  have HTD := Lib.hid (show thingD L s x.d kTrip = (s6, { x.d with trips := x.d.trips ++ [y] }) by unfold thingD; rw [if_neg (by decide)]; rw [if_neg (by decide)]; rw [if_neg (by decide)]; rw [if_neg (by decide)]; rw [if_pos rfl]; unfold tripRD; simp only [h1, h2, h3, h4, h5, h6, hy])
  obtain ⟨A0, c0, ev⟩ := ow_slice trc_len hs.t
  rw [HTD.out, show ba kTrip = ⟨#[116, 114, 105, 112]⟩ from rfl]
  clear HTD h hs hm
  go_enter Tryz.func96, Tryz.ntmps96
  have hke := fun W h => qkey_any b v L s1 x.xv kOf W h
  simp only [h2] at hke
  rw [show ba kOf = ⟨#[111, 102]⟩ from rfl] at hke
  have haf := fun W h => qafter_any b v L s3 x.xv kFrom W h
  simp only [h4] at haf
  rw [show ba kFrom = ⟨#[102, 114, 111, 109]⟩ from rfl] at haf
  have hae := fun W h => qafter_any b v L s4 x.xv kEvery W h
  simp only [h5] at hae
  rw [show ba kEvery = ⟨#[101, 118, 101, 114, 121]⟩ from rfl] at hae
  have hau := fun W h => qafter_any b v L s5 x.xv kUntil W h
  simp only [h6] at hau
  rw [show ba kUntil = ⟨#[117, 110, 116, 105, 108]⟩ from rfl] at hau
  have HKE := Lib.hid hke
  have HAF := Lib.hid haf
  have HAE := Lib.hid hae
  have HAU := Lib.hid hau
  clear hke haf hae hau h2 h4 h5 h6
  go_wp2_with fail
  refine (qname_any b v L s x.xv w HO.out).mono ?_
  rw [h1]
  dsimp only
  rintro e a13 ⟨rfl, ho, hk⟩
  have HO2 := Lib.hid ho
  have HK2 := Lib.hid (HK.out.trans hk)
  clear ho hk HO HK
  have HO := Lib.hid HO2.out
  have HK := Lib.hid HK2.out
  clear HO2 HK2
  go_upto_region 19 with fail
  obtain ⟨g, hgq⟩ : ∃ g, a13.heap.size = g := ⟨_, rfl⟩
  obtain ⟨a14, hw⟩ : ∃ w9, a13.alloc (.cells #[.string (ba y.name), .string ⟨#[]⟩, .int .i64 0, .int .i64 0, .int .i64 0] 40) = w9 := ⟨_, rfl⟩
  have hbw : Below a13.heap.size a13 a14 := by rw [← hw]; exact (Below.refl _ _).alloc (Nat.le_refl _) _
  have HE := Lib.hid (show a14.heap[g]? = some (.cells #[.string (ba y.name), .string ⟨#[]⟩, .int .i64 0, .int .i64 0, .int .i64 0] 40 (0, 0)) by rw [← hw, ← hgq]; exact heap_alloc_new _ _)
  have HGB := Lib.hid (show b < g by have := HO.out.lt; omega)
  have HGW := Lib.hid (show w.heap.size ≤ g by have := HK.out.size; omega)
  have HO2 := Lib.hid (HO.out.new hbw)
  have HK2 := Lib.hid (HK.out.trans (Keep.of hbw (Nat.le_of_lt HO.out.lt)))
  rw [hw, hgq]
  clear hw hbw HO HK hgq
  have HO := Lib.hid HO2.out
  have HK := Lib.hid HK2.out
  clear HO2 HK2
  go_wp2_with fail
  refine (HKE.out a14 HO.out).mono ?_
  rintro e a15 ⟨rfl, ho, hk⟩
  have HE2 := Lib.hid ((hk.block g (Array.getElem?_eq_some_iff.1 HE.out).1 (by have := HGB.out; omega)).trans HE.out)
  clear HE
  have HE := Lib.hid HE2.out
  clear HE2
  have HO2 := Lib.hid ho
  have HK2 := Lib.hid (HK.out.trans hk)
  clear ho hk HO HK
  have HO := Lib.hid HO2.out
  have HK := Lib.hid HK2.out
  clear HO2 HK2
  go_wp2_with fail
  refine (qname_any b v L s2 x.xv a15 HO.out).mono ?_
  rw [h3]
  dsimp only
  rintro e a16 ⟨rfl, ho, hk⟩
  have HE2 := Lib.hid ((hk.block g (Array.getElem?_eq_some_iff.1 HE.out).1 (by have := HGB.out; omega)).trans HE.out)
  clear HE
  have HE := Lib.hid HE2.out
  clear HE2
  have HO2 := Lib.hid ho
  have HK2 := Lib.hid (HK.out.trans hk)
  clear ho hk HO HK
  have HO := Lib.hid HO2.out
  have HK := Lib.hid HK2.out
  clear HO2 HK2
  have y1 : a16.cell? ⟨g, 1, none⟩ = some (.string ⟨#[]⟩) := Lib.cell_of_heap HE.out 1
  have y2 : a16.frozen? ⟨g, 1, none⟩ = false := Lib.frozen_of_heap HE.out 1
  go_upto_region 21 with fail
  clear y1 y2
  obtain ⟨a17, hw⟩ : ∃ w9, a16.setCell ⟨g, 1, none⟩ (.string (ba y.route)) = w9 := ⟨_, rfl⟩
  have HE2 := Lib.hid (show a17.heap[g]? = some (.cells #[.string (ba y.name), .string (ba y.route), .int .i64 0, .int .i64 0, .int .i64 0] 40 (0, 0)) by rw [← hw]; exact heap_setCell_same a16 g 1 _ _ _ HE.out)
  have HO2 := Lib.hid (show RdOk b v L s3 x.xv a17 by rw [← hw]; exact HO.out.set HGB.out 1 _)
  have HK2 := Lib.hid (show Keep b w a17 by rw [← hw]; exact HK.out.newSet HGW.out (Nat.le_of_lt HLT.out) 1 _)
  rw [hw]
  clear hw HO HK HE
  have HO := Lib.hid HO2.out
  have HK := Lib.hid HK2.out
  have HE := Lib.hid HE2.out
  clear HO2 HK2 HE2
  go_wp2_with fail
  refine (HAF.out a17 HO.out).mono ?_
  rintro e a18 ⟨rfl, ho, hk⟩
  have HE2 := Lib.hid ((hk.block g (Array.getElem?_eq_some_iff.1 HE.out).1 (by have := HGB.out; omega)).trans HE.out)
  clear HE
  have HE := Lib.hid HE2.out
  clear HE2
  have HO2 := Lib.hid ho
  have HK2 := Lib.hid (HK.out.trans hk)
  clear ho hk HO HK
  have HO := Lib.hid HO2.out
  have HK := Lib.hid HK2.out
  clear HO2 HK2
  have y1 : a18.cell? ⟨g, 2, none⟩ = some (.int .i64 0) := Lib.cell_of_heap HE.out 2
  have y2 : a18.frozen? ⟨g, 2, none⟩ = false := Lib.frozen_of_heap HE.out 2
  go_upto_region 22 with fail
  clear y1 y2
  obtain ⟨a19, hw⟩ : ∃ w9, a18.setCell ⟨g, 2, none⟩ (.int .i64 y.start) = w9 := ⟨_, rfl⟩
  have HE2 := Lib.hid (show a19.heap[g]? = some (.cells #[.string (ba y.name), .string (ba y.route), .int .i64 y.start, .int .i64 0, .int .i64 0] 40 (0, 0)) by rw [← hw]; exact heap_setCell_same a18 g 2 _ _ _ HE.out)
  have HO2 := Lib.hid (show RdOk b v L s4 x.xv a19 by rw [← hw]; exact HO.out.set HGB.out 2 _)
  have HK2 := Lib.hid (show Keep b w a19 by rw [← hw]; exact HK.out.newSet HGW.out (Nat.le_of_lt HLT.out) 2 _)
  rw [hw]
  clear hw HO HK HE
  have HO := Lib.hid HO2.out
  have HK := Lib.hid HK2.out
  have HE := Lib.hid HE2.out
  clear HO2 HK2 HE2
  go_wp2_with fail
  refine (HAE.out a19 HO.out).mono ?_
  rintro e a20 ⟨rfl, ho, hk⟩
  have HE2 := Lib.hid ((hk.block g (Array.getElem?_eq_some_iff.1 HE.out).1 (by have := HGB.out; omega)).trans HE.out)
  clear HE
  have HE := Lib.hid HE2.out
  clear HE2
  have HO2 := Lib.hid ho
  have HK2 := Lib.hid (HK.out.trans hk)
  clear ho hk HO HK
  have HO := Lib.hid HO2.out
  have HK := Lib.hid HK2.out
  clear HO2 HK2
  have y1 : a20.cell? ⟨g, 3, none⟩ = some (.int .i64 0) := Lib.cell_of_heap HE.out 3
  have y2 : a20.frozen? ⟨g, 3, none⟩ = false := Lib.frozen_of_heap HE.out 3
  go_upto_region 23 with fail
  clear y1 y2
  obtain ⟨a21, hw⟩ : ∃ w9, a20.setCell ⟨g, 3, none⟩ (.int .i64 y.every) = w9 := ⟨_, rfl⟩
  have HE2 := Lib.hid (show a21.heap[g]? = some (.cells #[.string (ba y.name), .string (ba y.route), .int .i64 y.start, .int .i64 y.every, .int .i64 0] 40 (0, 0)) by rw [← hw]; exact heap_setCell_same a20 g 3 _ _ _ HE.out)
  have HO2 := Lib.hid (show RdOk b v L s5 x.xv a21 by rw [← hw]; exact HO.out.set HGB.out 3 _)
  have HK2 := Lib.hid (show Keep b w a21 by rw [← hw]; exact HK.out.newSet HGW.out (Nat.le_of_lt HLT.out) 3 _)
  rw [hw]
  clear hw HO HK HE
  have HO := Lib.hid HO2.out
  have HK := Lib.hid HK2.out
  have HE := Lib.hid HE2.out
  clear HO2 HK2 HE2
  go_wp2_with fail
  refine (HAU.out a21 HO.out).mono ?_
  rintro e a22 ⟨rfl, ho, hk⟩
  have HE2 := Lib.hid ((hk.block g (Array.getElem?_eq_some_iff.1 HE.out).1 (by have := HGB.out; omega)).trans HE.out)
  clear HE
  have HE := Lib.hid HE2.out
  clear HE2
  have HO2 := Lib.hid ho
  have HK2 := Lib.hid (HK.out.trans hk)
  clear ho hk HO HK
  have HO := Lib.hid HO2.out
  have HK := Lib.hid HK2.out
  clear HO2 HK2
  have y1 : a22.cell? ⟨g, 4, none⟩ = some (.int .i64 0) := Lib.cell_of_heap HE.out 4
  have y2 : a22.frozen? ⟨g, 4, none⟩ = false := Lib.frozen_of_heap HE.out 4
  go_upto_region 24 with fail
  clear y1 y2
  obtain ⟨a23, hw⟩ : ∃ w9, a22.setCell ⟨g, 4, none⟩ (.int .i64 y.stop) = w9 := ⟨_, rfl⟩
  have HE2 := Lib.hid (show a23.heap[g]? = some (.cells #[.string (ba y.name), .string (ba y.route), .int .i64 y.start, .int .i64 y.every, .int .i64 y.stop] 40 (0, 0)) by rw [← hw]; exact heap_setCell_same a22 g 4 _ _ _ HE.out)
  have HO2 := Lib.hid (show RdOk b v L s6 x.xv a23 by rw [← hw]; exact HO.out.set HGB.out 4 _)
  have HK2 := Lib.hid (show Keep b w a23 by rw [← hw]; exact HK.out.newSet HGW.out (Nat.le_of_lt HLT.out) 4 _)
  rw [hw]
  clear hw HO HK HE
  have HO := Lib.hid HO2.out
  have HK := Lib.hid HK2.out
  have HE := Lib.hid HE2.out
  clear HO2 HK2 HE2
  go_upto_region 24 with fail
  have HC := Lib.hid (fun (wy : World) (hy : Below a23.heap.size a23 wy) => (show wy.cell? ⟨b, 10, none⟩ = some (.slice A0 x.trips.length c0) ∧ wy.cell? ⟨g, 0, none⟩ = some (.string (ba y.name)) ∧ wy.cell? ⟨g, 1, none⟩ = some (.string (ba y.route)) ∧ wy.cell? ⟨g, 2, none⟩ = some (.int .i64 y.start) ∧ wy.cell? ⟨g, 3, none⟩ = some (.int .i64 y.every) ∧ wy.cell? ⟨g, 4, none⟩ = some (.int .i64 y.stop) ∧ True ∧ True from ⟨(hy.cell (p := ⟨b, 10, none⟩) HO.out.lt).trans (by rw [← ev]; exact Lib.cell_of_heap HO.out.R 10), (hy.cell (p := ⟨g, 0, none⟩) (Array.getElem?_eq_some_iff.1 HE.out).1).trans (Lib.cell_of_heap HE.out 0), (hy.cell (p := ⟨g, 1, none⟩) (Array.getElem?_eq_some_iff.1 HE.out).1).trans (Lib.cell_of_heap HE.out 1), (hy.cell (p := ⟨g, 2, none⟩) (Array.getElem?_eq_some_iff.1 HE.out).1).trans (Lib.cell_of_heap HE.out 2), (hy.cell (p := ⟨g, 3, none⟩) (Array.getElem?_eq_some_iff.1 HE.out).1).trans (Lib.cell_of_heap HE.out 3), (hy.cell (p := ⟨g, 4, none⟩) (Array.getElem?_eq_some_iff.1 HE.out).1).trans (Lib.cell_of_heap HE.out 4), trivial, trivial⟩))
  have hSw : Below a23.heap.size a23 a23 := Below.refl _ _
  have HS5 := Lib.hid (HS.out.keep HK.out)
  refine wp_region_kinds (fun wy => Below a23.heap.size a23 wy) [7] [8, 12] [5, 6] [0, 1, 2, 3, 4, 9, 10, 11] [0, 1, 2, 3, 4, 5, 6, 7, 8, 9, 10, 11, 12] (by kernel_rfl) (by kernel_rfl) (fun w n h => below_drewN h n) ?_
  repeat (first | (refine wpKind_free (v := ?_) (by rfl) rfl (by rfl) ?_ ?_; rotate_left 1; (focus (intro wy; go_simp; try with_reducible rfl; done)); try simp only [Act.put, List.setIfInBounds_toArray, List.set_cons_zero, List.set_cons_succ]) | (refine wpKind_held (v := ?_) (by rfl) rfl (by rfl) hSw ?_ ?_; rotate_left 1; (focus (intro wy hSy; obtain ⟨s0, s1, s2, s3, s4, s5, s6, s7⟩ := HC.out wy hSy; go_simp; try with_reducible rfl; done)); try simp only [Act.put, List.setIfInBounds_toArray, List.set_cons_zero, List.set_cons_succ]))
  clear hSw HC
  refine wpKind_keeps (by rfl) rfl (fun n2 => ?_)
  go_wp2_with fail
  show _ ∧ _
  refine ⟨(below_drewN (Below.refl _ _) n2).alloc (Nat.le_refl _) _, ?_⟩
  refine wpKind_serial (by rfl) rfl (fun n3 => ?_)
  go_wp2_with (at_builtin; refine wpList_append_sl _ rfl _ _ _ rfl B 40 iT _ 56 Tryz.underlying26 hiT hziT1 hziT2 hziT3 rfl (by omega) trc_len trc_one _ _ x.trips [y] rfl rfl ((ev ▸ (((HS5.out.drewN n2).alloc (.cells #[.string (ba y.name), .string (ba y.route), .int .i64 y.start, .int .i64 y.every, .int .i64 y.stop] 40)).drewN n3).t)) (((Sl.new1 y rfl).drewN n3)) (by simp only [maxLen, List.length_cons, List.length_nil]; omega) (by simp only [List.length_cons, List.length_nil]; omega) ((((HS5.out.drewN n2).alloc (.cells #[.string (ba y.name), .string (ba y.route), .int .i64 y.start, .int .i64 y.every, .int .i64 y.stop] 40)).drewN n3).hB) ?_; intro v1 w6 hown1 hg1 hmv1; obtain ⟨A1, c1, rfl⟩ : ∃ A cap, v1 = .slice A (x.trips.length + 1) cap := (by obtain ⟨A, cap, e⟩ := ow_slice trc_len hown1; exact ⟨A, cap, by rw [e]; simp⟩))
  have HS6 := Lib.hid ((((HS5.out.drewN n2).alloc (.cells #[.string (ba y.name), .string (ba y.route), .int .i64 y.start, .int .i64 y.every, .int .i64 y.stop] 40)).drewN n3).put_t hown1 (ev.symm ▸ hg1) (ev.symm ▸ hmv1))
  have hnb : ∀ k, k ≤ b → some k ≠ Value.ownBlock (.slice A0 x.trips.length c0) := fun k hk e => by
    have h1 := (((((HS5.out.drewN n2).alloc (.cells #[.string (ba y.name), .string (ba y.route), .int .i64 y.start, .int .i64 y.every, .int .i64 y.stop] 40)).drewN n3).t).lt (k := k) (by rw [ev]; exact e.symm)).1
    have h2 := HS5.out.hb
    omega
  have hbl6 : ∀ k, k ≤ b → w6.heap[k]? = a23.heap[k]? := fun k hk => (hg1.block k (by have := HO.out.lt; show k < ((a23.drewN n2).alloc (.cells #[.string (ba y.name), .string (ba y.route), .int .i64 y.start, .int .i64 y.every, .int .i64 y.stop] 40)).heap.size; rw [World.size_alloc]; show k < a23.heap.size + 1; omega) (hnb k hk)).trans (Below.heap_alloc _ _ _ (by have := HO.out.lt; show k < a23.heap.size; omega))
  have HO6 := Lib.hid (HO.out.frame (by have := hg1.size; rw [show ((((a23.drewN n2).alloc (.cells #[.string (ba y.name), .string (ba y.route), .int .i64 y.start, .int .i64 y.every, .int .i64 y.stop] 40)).drewN n3)).heap.size = a23.heap.size + 1 from World.size_alloc _ _] at this; omega) hbl6)
  have HBL6 := Lib.hid (show Below b w w6 from HK.out.below.trans ((below_drewN ((below_drewN (Below.refl b a23) n2).alloc (Nat.le_of_lt HO.out.lt) (.cells #[.string (ba y.name), .string (ba y.route), .int .i64 y.start, .int .i64 y.every, .int .i64 y.stop] 40)) n3).grown hg1 (by have := HO.out.lt; show b ≤ ((a23.drewN n2).alloc (.cells #[.string (ba y.name), .string (ba y.route), .int .i64 y.start, .int .i64 y.every, .int .i64 y.stop] 40)).heap.size; rw [World.size_alloc]; show b ≤ a23.heap.size + 1; omega) (fun k hk => Nat.le_of_lt (Nat.lt_of_not_le fun hkb => hnb k hkb hk.symm))))
  have y1 : w6.cell? ⟨b, 10, none⟩ = some (.slice A0 x.trips.length c0) := by rw [← ev]; exact Lib.cell_of_heap HO6.out.R 10
  have y2 : w6.frozen? ⟨b, 10, none⟩ = false := Lib.frozen_of_heap HO6.out.R 10
  clear hown1 hg1 hmv1 hbl6 hnb
  repeat (first | (refine wpKind_free (v := ?_) (by rfl) rfl (by rfl) ?_ ?_; rotate_left 1; (focus (intro wy; go_simp; try with_reducible rfl; done)); try simp only [Act.put, List.setIfInBounds_toArray, List.set_cons_zero, List.set_cons_succ]) | (refine wpKind_held (v := ?_) (by rfl) rfl (by rfl) hSw ?_ ?_; rotate_left 1; (focus (intro wy hSy; have s0 := hSy; go_simp; try with_reducible rfl; done)); try simp only [Act.put, List.setIfInBounds_toArray, List.set_cons_zero, List.set_cons_succ]))
  refine wpKind_serial (by rfl) rfl (fun n4 => ?_)
  go_wp2_with fail
  clear y1 y2
  show wpKind _ _ _ _ _ _ _ _ _
  refine wpKind_nil fun n5 => ?_
  go_wp2_with fail
  go_end0
  exact ⟨{ x with vt := .slice A1 (x.trips.length + 1) c1, trips := x.trips ++ [y] }, rfl, rfl, (HO6.out.drewN n4).next (RdAt.put_t (w := w6) HO6.out.R _ _) (((Keep.refl b (w6.drewN n4)).set 10 _).drewN n5) HO.out.at_, HS6.out.same rfl, below_drewN ((below_drewN HBL6.out n4).setCell (p := ⟨b, 10, none⟩) (Nat.le_refl _) _) n5⟩
set_option maxHeartbeats 8000000 in
set_option maxRecDepth 100000 in
theorem qthing_haz (B b : Nat) (v : Value) (L : List TokD) (s : Rd) (x : SheetM) (w : World) (h : RdOk b v L s x.xv w) (hs : ShAt B b x w) (hm : SmallS x) :
    Calls Tryz.prog 96 #[.pointer (some ⟨b, 0, none⟩), .string (ba kHazard)] w (Thing B b v L (thingD L s x.d kHazard) w) := by
  obtain ⟨iH, hiH, hziH1, hziH2, hziH3⟩ := info_parts info_hazQ
  have HLT := Lib.hid h.lt
  have hlen := hm.h
  have HO := Lib.hid h
  have HS := Lib.hid hs
  have HK := Lib.hid (Keep.refl b w)
  obtain ⟨⟨s1, na⟩, h1⟩ : ∃ r, nameD L s = r := ⟨_, rfl⟩
  obtain ⟨s2, h2⟩ : ∃ r, keyD L s1 kOn = r := ⟨_, rfl⟩
  obtain ⟨⟨s3, nb⟩, h3⟩ : ∃ r, nameD L s2 = r := ⟨_, rfl⟩
  obtain ⟨⟨s4, tt⟩, h4⟩ : ∃ r, timesRD L s3 kClosed = r := ⟨_, rfl⟩
  obtain ⟨y, hy⟩ : ∃ y : HazD, (⟨na, nb, tt⟩ : HazD) = y := ⟨_, rfl⟩
  obtain ⟨rfl, rfl, rfl⟩ : na = y.name ∧ nb = y.on ∧ tt = y.times := by subst hy; exact ⟨rfl, rfl, rfl⟩
  have HTD := Lib.hid (show thingD L s x.d kHazard = (s4, { x.d with hazs := x.d.hazs ++ [y] }) by unfold thingD; rw [if_neg (by decide)]; rw [if_neg (by decide)]; rw [if_neg (by decide)]; rw [if_neg (by decide)]; rw [if_neg (by decide)]; unfold hazRD; simp only [h1, h2, h3, h4, hy])
  obtain ⟨A0, c0, ev⟩ := ow_slice hc_len hs.h
  rw [HTD.out, show ba kHazard = ⟨#[104, 97, 122, 97, 114, 100]⟩ from rfl]
  clear HTD h hs hm
  go_enter Tryz.func96, Tryz.ntmps96
  have hke := fun W h => qkey_any b v L s1 x.xv kOn W h
  simp only [h2] at hke
  rw [show ba kOn = ⟨#[111, 110]⟩ from rfl] at hke
  have hti := fun W h => qtimes_any b v L s3 x.xv kClosed W h
  simp only [h4] at hti
  rw [show ba kClosed = ⟨#[99, 108, 111, 115, 101, 100]⟩ from rfl] at hti
  dsimp only [tc] at hti
  have HKE := Lib.hid hke
  have HTI := Lib.hid hti
  clear hke hti h2 h4
  go_wp2_with fail
  refine (qname_any b v L s x.xv w HO.out).mono ?_
  rw [h1]
  dsimp only
  rintro e a24 ⟨rfl, ho, hk⟩
  have HO2 := Lib.hid ho
  have HK2 := Lib.hid (HK.out.trans hk)
  clear ho hk HO HK
  have HO := Lib.hid HO2.out
  have HK := Lib.hid HK2.out
  clear HO2 HK2
  go_upto_region 2 with fail
  obtain ⟨g, hgq⟩ : ∃ g, a24.heap.size = g := ⟨_, rfl⟩
  obtain ⟨a25, hw⟩ : ∃ w9, a24.alloc (.cells #[.string (ba y.name), .string ⟨#[]⟩, .int .i64 0, .int .i64 0, .int .i64 0] 42) = w9 := ⟨_, rfl⟩
  have hbw : Below a24.heap.size a24 a25 := by rw [← hw]; exact (Below.refl _ _).alloc (Nat.le_refl _) _
  have HE := Lib.hid (show a25.heap[g]? = some (.cells #[.string (ba y.name), .string ⟨#[]⟩, .int .i64 0, .int .i64 0, .int .i64 0] 42 (0, 0)) by rw [← hw, ← hgq]; exact heap_alloc_new _ _)
  have HGB := Lib.hid (show b < g by have := HO.out.lt; omega)
  have HGW := Lib.hid (show w.heap.size ≤ g by have := HK.out.size; omega)
  have HO2 := Lib.hid (HO.out.new hbw)
  have HK2 := Lib.hid (HK.out.trans (Keep.of hbw (Nat.le_of_lt HO.out.lt)))
  rw [hw, hgq]
  clear hw hbw HO HK hgq
  have HO := Lib.hid HO2.out
  have HK := Lib.hid HK2.out
  clear HO2 HK2
  go_wp2_with fail
  refine (HKE.out a25 HO.out).mono ?_
  rintro e a26 ⟨rfl, ho, hk⟩
  have HE2 := Lib.hid ((hk.block g (Array.getElem?_eq_some_iff.1 HE.out).1 (by have := HGB.out; omega)).trans HE.out)
  clear HE
  have HE := Lib.hid HE2.out
  clear HE2
  have HO2 := Lib.hid ho
  have HK2 := Lib.hid (HK.out.trans hk)
  clear ho hk HO HK
  have HO := Lib.hid HO2.out
  have HK := Lib.hid HK2.out
  clear HO2 HK2
  go_wp2_with fail
  refine (qname_any b v L s2 x.xv a26 HO.out).mono ?_
  rw [h3]
  dsimp only
  rintro e a27 ⟨rfl, ho, hk⟩
  have HE2 := Lib.hid ((hk.block g (Array.getElem?_eq_some_iff.1 HE.out).1 (by have := HGB.out; omega)).trans HE.out)
  clear HE
  have HE := Lib.hid HE2.out
  clear HE2
  have HO2 := Lib.hid ho
  have HK2 := Lib.hid (HK.out.trans hk)
  clear ho hk HO HK
  have HO := Lib.hid HO2.out
  have HK := Lib.hid HK2.out
  clear HO2 HK2
  have y1 : a27.cell? ⟨g, 1, none⟩ = some (.string ⟨#[]⟩) := Lib.cell_of_heap HE.out 1
  have y2 : a27.frozen? ⟨g, 1, none⟩ = false := Lib.frozen_of_heap HE.out 1
  go_upto_region 4 with fail
  clear y1 y2
  obtain ⟨a28, hw⟩ : ∃ w9, a27.setCell ⟨g, 1, none⟩ (.string (ba y.on)) = w9 := ⟨_, rfl⟩
  have HE2 := Lib.hid (show a28.heap[g]? = some (.cells #[.string (ba y.name), .string (ba y.on), .int .i64 0, .int .i64 0, .int .i64 0] 42 (0, 0)) by rw [← hw]; exact heap_setCell_same a27 g 1 _ _ _ HE.out)
  have HO2 := Lib.hid (show RdOk b v L s3 x.xv a28 by rw [← hw]; exact HO.out.set HGB.out 1 _)
  have HK2 := Lib.hid (show Keep b w a28 by rw [← hw]; exact HK.out.newSet HGW.out (Nat.le_of_lt HLT.out) 1 _)
  rw [hw]
  clear hw HO HK HE
  have HO := Lib.hid HO2.out
  have HK := Lib.hid HK2.out
  have HE := Lib.hid HE2.out
  clear HO2 HK2 HE2
  go_wp2_with fail
  refine (HTI.out a28 HO.out).mono ?_
  rintro e a29 ⟨rfl, ho, hk⟩
  have HE2 := Lib.hid ((hk.block g (Array.getElem?_eq_some_iff.1 HE.out).1 (by have := HGB.out; omega)).trans HE.out)
  clear HE
  have HE := Lib.hid HE2.out
  clear HE2
  have HO2 := Lib.hid ho
  have HK2 := Lib.hid (HK.out.trans hk)
  clear ho hk HO HK
  have HO := Lib.hid HO2.out
  have HK := Lib.hid HK2.out
  clear HO2 HK2
  have y1 : a29.cell? ⟨g, 2, none⟩ = some (.int .i64 0) := Lib.cell_of_heap HE.out 2
  have y2 : a29.frozen? ⟨g, 2, none⟩ = false := Lib.frozen_of_heap HE.out 2
  have y3 : a29.cell? ⟨g, 3, none⟩ = some (.int .i64 0) := Lib.cell_of_heap HE.out 3
  have y4 : a29.frozen? ⟨g, 3, none⟩ = false := Lib.frozen_of_heap HE.out 3
  have y5 : a29.cell? ⟨g, 4, none⟩ = some (.int .i64 0) := Lib.cell_of_heap HE.out 4
  have y6 : a29.frozen? ⟨g, 4, none⟩ = false := Lib.frozen_of_heap HE.out 4
  go_upto_region 5 with fail
  clear y1 y2 y3 y4 y5 y6
  obtain ⟨a30, hw⟩ : ∃ w9, ((a29.setCell ⟨g, 2, none⟩ (.int .i64 y.times.start)).setCell ⟨g, 3, none⟩ (.int .i64 y.times.every)).setCell ⟨g, 4, none⟩ (.int .i64 y.times.len) = w9 := ⟨_, rfl⟩
  have HE2 := Lib.hid (show a30.heap[g]? = some (.cells #[.string (ba y.name), .string (ba y.on), .int .i64 y.times.start, .int .i64 y.times.every, .int .i64 y.times.len] 42 (0, 0)) by
    rw [← hw]
    exact heap_setCell_same _ g 4 _ _ _ (heap_setCell_same _ g 3 _ _ _ (heap_setCell_same a29 g 2 _ _ _ HE.out)))
  have HO2 := Lib.hid (show RdOk b v L s4 x.xv a30 by rw [← hw]; exact ((HO.out.set HGB.out 2 _).set HGB.out 3 _).set HGB.out 4 _)
  have HK2 := Lib.hid (show Keep b w a30 by rw [← hw]; exact ((HK.out.newSet HGW.out (Nat.le_of_lt HLT.out) 2 _).newSet HGW.out (Nat.le_of_lt HLT.out) 3 _).newSet HGW.out (Nat.le_of_lt HLT.out) 4 _)
  rw [hw]
  clear hw HO HK HE
  have HO := Lib.hid HO2.out
  have HK := Lib.hid HK2.out
  have HE := Lib.hid HE2.out
  clear HO2 HK2 HE2
  go_upto_region 5 with fail
  have HC := Lib.hid (fun (wy : World) (hy : Below a30.heap.size a30 wy) => (show wy.cell? ⟨b, 11, none⟩ = some (.slice A0 x.hazs.length c0) ∧ wy.cell? ⟨g, 0, none⟩ = some (.string (ba y.name)) ∧ wy.cell? ⟨g, 1, none⟩ = some (.string (ba y.on)) ∧ wy.cell? ⟨g, 2, none⟩ = some (.int .i64 y.times.start) ∧ wy.cell? ⟨g, 3, none⟩ = some (.int .i64 y.times.every) ∧ wy.cell? ⟨g, 4, none⟩ = some (.int .i64 y.times.len) ∧ True ∧ True from ⟨(hy.cell (p := ⟨b, 11, none⟩) HO.out.lt).trans (by rw [← ev]; exact Lib.cell_of_heap HO.out.R 11), (hy.cell (p := ⟨g, 0, none⟩) (Array.getElem?_eq_some_iff.1 HE.out).1).trans (Lib.cell_of_heap HE.out 0), (hy.cell (p := ⟨g, 1, none⟩) (Array.getElem?_eq_some_iff.1 HE.out).1).trans (Lib.cell_of_heap HE.out 1), (hy.cell (p := ⟨g, 2, none⟩) (Array.getElem?_eq_some_iff.1 HE.out).1).trans (Lib.cell_of_heap HE.out 2), (hy.cell (p := ⟨g, 3, none⟩) (Array.getElem?_eq_some_iff.1 HE.out).1).trans (Lib.cell_of_heap HE.out 3), (hy.cell (p := ⟨g, 4, none⟩) (Array.getElem?_eq_some_iff.1 HE.out).1).trans (Lib.cell_of_heap HE.out 4), trivial, trivial⟩))
  have hSw : Below a30.heap.size a30 a30 := Below.refl _ _
  have HS5 := Lib.hid (HS.out.keep HK.out)
  refine wp_region_kinds (fun wy => Below a30.heap.size a30 wy) [7] [8, 12] [5, 6] [0, 1, 2, 3, 4, 9, 10, 11] [0, 1, 2, 3, 4, 5, 6, 7, 8, 9, 10, 11, 12] (by kernel_rfl) (by kernel_rfl) (fun w n h => below_drewN h n) ?_
  repeat (first | (refine wpKind_free (v := ?_) (by rfl) rfl (by rfl) ?_ ?_; rotate_left 1; (focus (intro wy; go_simp; try with_reducible rfl; done)); try simp only [Act.put, List.setIfInBounds_toArray, List.set_cons_zero, List.set_cons_succ]) | (refine wpKind_held (v := ?_) (by rfl) rfl (by rfl) hSw ?_ ?_; rotate_left 1; (focus (intro wy hSy; obtain ⟨s0, s1, s2, s3, s4, s5, s6, s7⟩ := HC.out wy hSy; go_simp; try with_reducible rfl; done)); try simp only [Act.put, List.setIfInBounds_toArray, List.set_cons_zero, List.set_cons_succ]))
  clear hSw HC
  refine wpKind_keeps (by rfl) rfl (fun n2 => ?_)
  go_wp2_with fail
  show _ ∧ _
  refine ⟨(below_drewN (Below.refl _ _) n2).alloc (Nat.le_refl _) _, ?_⟩
  refine wpKind_serial (by rfl) rfl (fun n3 => ?_)
  go_wp2_with (at_builtin; refine wpList_append_sl _ rfl _ _ _ rfl B 42 iH _ 56 Tryz.underlying27 hiH hziH1 hziH2 hziH3 rfl (by omega) hc_len hc_one _ _ x.hazs [y] rfl rfl ((ev ▸ (((HS5.out.drewN n2).alloc (.cells #[.string (ba y.name), .string (ba y.on), .int .i64 y.times.start, .int .i64 y.times.every, .int .i64 y.times.len] 42)).drewN n3).h)) (((Sl.new1 y rfl).drewN n3)) (by simp only [maxLen, List.length_cons, List.length_nil]; omega) (by simp only [List.length_cons, List.length_nil]; omega) ((((HS5.out.drewN n2).alloc (.cells #[.string (ba y.name), .string (ba y.on), .int .i64 y.times.start, .int .i64 y.times.every, .int .i64 y.times.len] 42)).drewN n3).hB) ?_; intro v1 w6 hown1 hg1 hmv1; obtain ⟨A1, c1, rfl⟩ : ∃ A cap, v1 = .slice A (x.hazs.length + 1) cap := (by obtain ⟨A, cap, e⟩ := ow_slice hc_len hown1; exact ⟨A, cap, by rw [e]; simp⟩))
  have HS6 := Lib.hid ((((HS5.out.drewN n2).alloc (.cells #[.string (ba y.name), .string (ba y.on), .int .i64 y.times.start, .int .i64 y.times.every, .int .i64 y.times.len] 42)).drewN n3).put_h hown1 (ev.symm ▸ hg1) (ev.symm ▸ hmv1))
  have hnb : ∀ k, k ≤ b → some k ≠ Value.ownBlock (.slice A0 x.hazs.length c0) := fun k hk e => by
    have h1 := (((((HS5.out.drewN n2).alloc (.cells #[.string (ba y.name), .string (ba y.on), .int .i64 y.times.start, .int .i64 y.times.every, .int .i64 y.times.len] 42)).drewN n3).h).lt (k := k) (by rw [ev]; exact e.symm)).1
    have h2 := HS5.out.hb
    omega
  have hbl6 : ∀ k, k ≤ b → w6.heap[k]? = a30.heap[k]? := fun k hk => (hg1.block k (by have := HO.out.lt; show k < ((a30.drewN n2).alloc (.cells #[.string (ba y.name), .string (ba y.on), .int .i64 y.times.start, .int .i64 y.times.every, .int .i64 y.times.len] 42)).heap.size; rw [World.size_alloc]; show k < a30.heap.size + 1; omega) (hnb k hk)).trans (Below.heap_alloc _ _ _ (by have := HO.out.lt; show k < a30.heap.size; omega))
  have HO6 := Lib.hid (HO.out.frame (by have := hg1.size; rw [show ((((a30.drewN n2).alloc (.cells #[.string (ba y.name), .string (ba y.on), .int .i64 y.times.start, .int .i64 y.times.every, .int .i64 y.times.len] 42)).drewN n3)).heap.size = a30.heap.size + 1 from World.size_alloc _ _] at this; omega) hbl6)
  have HBL6 := Lib.hid (show Below b w w6 from HK.out.below.trans ((below_drewN ((below_drewN (Below.refl b a30) n2).alloc (Nat.le_of_lt HO.out.lt) (.cells #[.string (ba y.name), .string (ba y.on), .int .i64 y.times.start, .int .i64 y.times.every, .int .i64 y.times.len] 42)) n3).grown hg1 (by have := HO.out.lt; show b ≤ ((a30.drewN n2).alloc (.cells #[.string (ba y.name), .string (ba y.on), .int .i64 y.times.start, .int .i64 y.times.every, .int .i64 y.times.len] 42)).heap.size; rw [World.size_alloc]; show b ≤ a30.heap.size + 1; omega) (fun k hk => Nat.le_of_lt (Nat.lt_of_not_le fun hkb => hnb k hkb hk.symm))))
  have y1 : w6.cell? ⟨b, 11, none⟩ = some (.slice A0 x.hazs.length c0) := by rw [← ev]; exact Lib.cell_of_heap HO6.out.R 11
  have y2 : w6.frozen? ⟨b, 11, none⟩ = false := Lib.frozen_of_heap HO6.out.R 11
  clear hown1 hg1 hmv1 hbl6 hnb
  repeat (first | (refine wpKind_free (v := ?_) (by rfl) rfl (by rfl) ?_ ?_; rotate_left 1; (focus (intro wy; go_simp; try with_reducible rfl; done)); try simp only [Act.put, List.setIfInBounds_toArray, List.set_cons_zero, List.set_cons_succ]) | (refine wpKind_held (v := ?_) (by rfl) rfl (by rfl) hSw ?_ ?_; rotate_left 1; (focus (intro wy hSy; have s0 := hSy; go_simp; try with_reducible rfl; done)); try simp only [Act.put, List.setIfInBounds_toArray, List.set_cons_zero, List.set_cons_succ]))
  refine wpKind_serial (by rfl) rfl (fun n4 => ?_)
  go_wp2_with fail
  clear y1 y2
  show wpKind _ _ _ _ _ _ _ _ _
  refine wpKind_nil fun n5 => ?_
  go_wp2_with fail
  go_end0
  exact ⟨{ x with vh := .slice A1 (x.hazs.length + 1) c1, hazs := x.hazs ++ [y] }, rfl, rfl, (HO6.out.drewN n4).next (RdAt.put_h (w := w6) HO6.out.R _ _) (((Keep.refl b (w6.drewN n4)).set 11 _).drewN n5) HO.out.at_, HS6.out.same rfl, below_drewN ((below_drewN HBL6.out n4).setCell (p := ⟨b, 11, none⟩) (Nat.le_refl _) _) n5⟩
end Go.Proofs.YtmihinhbcncbfaaGreatDoor
