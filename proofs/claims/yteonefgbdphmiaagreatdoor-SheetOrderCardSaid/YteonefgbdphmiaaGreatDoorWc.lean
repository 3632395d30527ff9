/- Package sheet: the walks of grow at a name, a path, a door, a trip, a hazard, and of the methods that call it. Printed by wip/bin/genwc.py. -/
import Derived.Test.YteonefgbdphmiaaGreatDoorWb
import Derived.Test.YteonefgbdphmiaaGreatDoorPb
namespace Go.Proofs.YteonefgbdphmiaaGreatDoor
open Go.RowKit
theorem ShAt.reset {B b : Nat} {x : SheetM} {w : World} {i : Nat} {v : Value} (h : ShAt B b x (w.setCell ⟨b, i, none⟩ v)) (j : Nat) (u : Value) : ShAt B b x (w.setCell ⟨b, j, none⟩ u) :=
  h.keepB (by simp [World.setCell]) fun k hk _ => (heap_setCell_other w ⟨b, j, none⟩ k u (by have := h.hb; show k ≠ b; omega)).trans (heap_setCell_other w ⟨b, i, none⟩ k v (by have := h.hb; show k ≠ b; omega)).symm
/-- Blocks that are no row of the sheet stay, and are none of the new sheet's. -/
def Apart (b : Nat) (x : SheetM) (w : World) (x' : SheetM) (w' : World) : Prop := ∀ k, k < w.heap.size → k ≠ b → apartP x 0 k → w'.heap[k]? = w.heap[k]? ∧ apartP x' 0 k
theorem Apart.pre {b : Nat} {x x' : SheetM} {w w1 w' : World} (h : Apart b x w1 x' w') (hb : Keep b w w1) : Apart b x w x' w' := fun k hk hkb ha => by
  obtain ⟨h1, h2⟩ := h k (Nat.lt_of_lt_of_le hk hb.size) hkb ha
  exact ⟨h1.trans (hb.block k hk hkb), h2⟩
/-- A line's rest has been read, or the reader has given up. -/
def GotT (B b : Nat) (L : List TokD) (x : SheetM) (w : World) (r : Rd × SheetD) (e : Ending) (w' : World) : Prop :=
  (∃ j, ∃ x' : SheetM, r.1 = rd j ∧ x'.d = r.2 ∧ e = .returned (.tuple #[]) ∧ SOk b L j x'.xv w' ∧ ShAt B b x' w' ∧ Below b w w' ∧ Apart b x w x' w') ∨ (r.1.e ≠ 0 ∧ e = .panicked (give r.1) ∧ Below b w w')
/-- A line behind its word, if there may be one more of the kind. -/
def midT (L : List TokD) (i : Nat) (d : SheetD) (k : List UInt8) : Rd × SheetD := if fullD d k = true then (failD (rd i) 3 (nowD L (rd i)), d) else thingD L (rd (i + 1)) d k
theorem SOk.put {b : Nat} {L : List TokD} {j : Nat} {X Y : XV} {w : World} (h : SOk b L j X w) (o : Nat) (u : Value) (ho : ∀ v, (#[v, .int .i64 X.h, X.vs, X.vp, X.vd, X.vr, X.vt, X.vh] : Array Value).setIfInBounds o u = #[v, .int .i64 Y.h, Y.vs, Y.vp, Y.vd, Y.vr, Y.vt, Y.vh]) : SOk b L j Y (w.setCell ⟨b, o, none⟩ u) := by
  obtain ⟨v, hS, hR⟩ := h.S
  refine ⟨⟨v, hS.keep (by simp [World.setCell]) fun k _ hk => heap_setCell_other w ⟨b, o, none⟩ k u (Nat.ne_of_lt hk), ?_⟩, h.at_, h.len⟩
  have h1 := heap_setCell_same w b o _ _ u hR
  unfold SrAt
  rw [h1, ho v]
theorem SOk.cellv {b : Nat} {L : List TokD} {j : Nat} {X : XV} {w : World} (h : SOk b L j X w) (o : Nat) (u : Value) (ho : ∀ v, (#[v, .int .i64 X.h, X.vs, X.vp, X.vd, X.vr, X.vt, X.vh] : Array Value)[o]? = some u) : w.cell? ⟨b, o, none⟩ = some u ∧ w.frozen? ⟨b, o, none⟩ = false := by
  obtain ⟨v, _, hR⟩ := h.S
  have h1 := Lib.cell_of_heap hR o
  refine ⟨?_, Lib.frozen_of_heap hR o⟩
  rw [show (w.cell? ⟨b, o, none⟩) = _ from h1]
  exact ho v
set_option maxHeartbeats 8000000 in
set_option maxRecDepth 100000 in
theorem sgrow_s (B b : Nat) (L : List TokD) (i : Nat) (x : SheetM) (w : World) (h : SOk b L i x.xv w) (hs : ShAt B b x w) (hm : SmallS x) (hk : (nowD L (rd i)).kind = 2) :
    Calls Tryz.prog 105 #[.pointer (some ⟨b, 0, none⟩), .pointer (some ⟨b, 2, none⟩), .int .i64 256, .func (.func 106) #[.pointer (some ⟨b, 0, none⟩)] #[]] w (GotT B b L x w (midT L i x.d kStop)) := by
  obtain ⟨iT, hiT, hz1, hz2, hz3⟩ := info_parts info_string
  have HLT := Lib.hid h.lt
  have hlen := hm.s
  have HO := Lib.hid h
  have HS := Lib.hid hs
  obtain ⟨A0, c0, ev⟩ := ow_slice nc_len hs.s
  have HF := Lib.hid (sfail_any b L i x.xv 3)
  have HE3 := Lib.hid (fail_rd L i 3 (by decide))
  have HTK := Lib.hid (stake_ok b L i x.xv 2 w h hk (kind_lt hk (by decide)))
  have hful : fullD x.d kStop = decide (256 ≤ x.stops.length) := by unfold fullD;  rw [if_pos rfl]; rfl
  have x0 : w.cell? ⟨b, 2, none⟩ = some (.slice A0 x.stops.length c0) := (h.cellv 2 _ (fun v => by rw [← ev]; rfl)).1
  unfold midT
  rw [hful]
  obtain ⟨n, hn⟩ : ∃ n, x.stops.length = n := ⟨_, rfl⟩
  by_cases hge : 256 ≤ n
  · rw [hn, decide_eq_true hge, if_pos rfl]
    rw [hn] at x0
    have c1 : decide ((256 : Int) ≤ (n : Int)) = true := decide_eq_true (by omega)
    clear h hs hm hful ev hge hlen HTK
    go_enter Tryz.func105, Tryz.ntmps105
    go_wp2_with fail
    refine (HF.out w HO.out).mono ?_
    rintro e w4 ⟨rfl, hb⟩
    have HB4 := Lib.hid (hb.mono (Nat.le_of_lt HLT.out))
    clear hb
    try go_wp2_with fail
    exact ⟨rfl, .inr ⟨HE3.out, rfl, HB4.out⟩⟩
  · have c1 : decide ((256 : Int) ≤ (n : Int)) = false := decide_eq_false (by omega)
    rw [hn, decide_eq_false hge, if_neg (by decide)]
    rw [hn] at x0
    obtain ⟨⟨sN, y⟩, hy⟩ : ∃ r, nameD L (rd (i + 1)) = r := ⟨_, rfl⟩
    have HTD := Lib.hid (show thingD L (rd (i + 1)) x.d kStop = (sN, { x.d with stops := x.d.stops ++ [y] }) by unfold thingD;  rw [if_pos rfl]; rw [hy])
    rw [HTD.out]
    have hq9 := fun w9 h9 => sname_any b L (i + 1) x.xv w9 h9
    simp only [hy] at hq9
    have HC := Lib.hid hq9
    have HEV := Lib.hid ev
    have HLE := Lib.hid hlen
    have HNN := Lib.hid hn
    clear hq9 h hs hm hful hge hy hlen HF HE3 HTD
    dsimp only [tkc] at HTK
    go_enter Tryz.func105, Tryz.ntmps105
    go_wp2_with fail
    refine HTK.out.mono ?_
    rintro e w1 ⟨rfl, ho, hk1⟩
    have HO1 := Lib.hid ho
    have HK1 := Lib.hid hk1
    have HS1 := Lib.hid (HS.out.keep hk1)
    clear ho hk1 x0 HTK
    go_upto_region 3 with fail
    have hSw : w1.cell? ⟨b, 2, none⟩ = some (.slice A0 n c0) := (HO1.out.cellv 2 _ (fun v => by rw [← HNN.out, ← HEV.out]; rfl)).1
    refine wp_region_kindsP [] (fun c w9 => ∃ r : Rd, r.e ≠ 0 ∧ sN = r ∧ c = give r ∧ Below b w w9) ?_ (fun wy => wy.cell? ⟨b, 2, none⟩ = some (.slice A0 n c0)) [5, 6] [7, 9] [3] [0, 1, 2, 4, 8] [0, 1, 2, 3, 4, 5, 6, 7, 8, 9] (by kernel_rfl) (by kernel_rfl) (fun w n h => h) ?_
    · rintro c a w9 hd ⟨r, he, rfl, rfl, hk⟩
      exact ⟨hd, .inr ⟨he, rfl, hk⟩⟩
    repeat (first | (refine wpKind_free (v := ?_) (by rfl) rfl (by rfl) ?_ ?_; rotate_left 1; (focus (intro wy; go_simp; try with_reducible rfl; done)); try simp only [Act.put, List.setIfInBounds_toArray, List.set_cons_zero, List.set_cons_succ]) | (refine wpKind_held (v := ?_) (by rfl) rfl (by rfl) hSw ?_ ?_; rotate_left 1; (focus (intro wy hSy; have s0 := hSy; go_simp; try with_reducible rfl; done)); try simp only [Act.put, List.setIfInBounds_toArray, List.set_cons_zero, List.set_cons_succ]))
    clear hSw
    refine wpKind_keeps (by rfl) rfl (fun n1 => ?_)
    go_wp2_with fail
    refine got_elim (HC.out (w1.drewN n1) (HO1.out.drewN n1)) ?_ ?_
    · intro w9 he hk
      exact ⟨rfl, sN, he, rfl, rfl, HK1.out.below.trans (((Keep.refl b w1).drewN n1).trans hk).below⟩
    rintro j1 w5 rfl ho hk
    have HK5 := Lib.hid (((Keep.refl b w1).drewN n1).trans hk)
    have HO5 := Lib.hid ho
    have HS5 := Lib.hid (HS1.out.keep HK5.out)
    clear ho hk HC
    go_wp2_with fail
    show _ ∧ _
    refine ⟨(HO5.out.cellv 2 _ (fun v => by rw [← HNN.out, ← HEV.out]; rfl)).1, ?_⟩
    repeat (first | (refine wpKind_free (v := ?_) (by rfl) rfl (by rfl) ?_ ?_; rotate_left 1; (focus (intro wy; go_simp; try with_reducible rfl; done)); try simp only [Act.put, List.setIfInBounds_toArray, List.set_cons_zero, List.set_cons_succ]))
    refine wpKind_keeps (by rfl) rfl (fun n2 => ?_)
    go_wp2_with fail
    show _ ∧ _
    refine ⟨((HO5.out.drewN n2).new ((Below.refl _ _).alloc (Nat.le_refl _) (.cells #[.string (ba y)] 9))).cellv 2 _ (fun v => by rw [← HNN.out, ← HEV.out]; rfl) |>.1, ?_⟩
    refine wpKind_serial (by rfl) rfl (fun n3 => ?_)
    have hlen := HLE.out
    have hn := HNN.out
    have ev := HEV.out
    subst hn
    go_wp2_with (at_builtin; refine wpList_append_sl _ rfl _ _ _ rfl B 9 iT _ 16 Tryz.underlying22 hiT hz1 hz2 hz3 rfl (by omega) nc_len nc_one _ _ x.stops [y] rfl rfl ((ev ▸ (((HS5.out.drewN n2).alloc (.cells #[.string (ba y)] 9)).drewN n3).s)) (((Sl.new1 y rfl).drewN n3)) (by simp only [maxLen, List.length_cons, List.length_nil]; omega) (by simp only [List.length_cons, List.length_nil]; omega) ((((HS5.out.drewN n2).alloc (.cells #[.string (ba y)] 9)).drewN n3).hB) ?_; intro v1 w6 hown1 hg1 hmv1; obtain ⟨A1, c1, rfl⟩ : ∃ A cap, v1 = .slice A (x.stops.length + 1) cap := (by obtain ⟨A, cap, e⟩ := ow_slice nc_len hown1; exact ⟨A, cap, by rw [e]; simp⟩))
    have HS6 := Lib.hid ((((HS5.out.drewN n2).alloc (.cells #[.string (ba y)] 9)).drewN n3).put_s hown1 (ev.symm ▸ hg1) (ev.symm ▸ hmv1))
    have HFR := Lib.hid (show ∀ k, k < w.heap.size → k ≠ b → apartP x 0 k → w6.heap[k]? = w.heap[k]? ∧ apartP ({ x with vs := .slice A1 (x.stops.length + 1) c1, stops := x.stops ++ [y] } : SheetM) 0 k from fun k hk hkb hap => by
      have hk1 : k < w1.heap.size := Nat.lt_of_lt_of_le hk HK1.out.size
      have hk2 : k < w5.heap.size := Nat.lt_of_lt_of_le hk1 HK5.out.size
      have hk3 : k < (((w5.drewN n2).alloc (.cells #[.string (ba y)] 9)).drewN n3).heap.size := by show k < ((w5.drewN n2).alloc (.cells #[.string (ba y)] 9)).heap.size; rw [World.size_alloc]; show k < w5.heap.size + 1; omega
      refine ⟨(hg1.block k hk3 (by rw [← ev]; exact hap.2.1)).trans ((Below.heap_alloc _ _ _ (show k < (w5.drewN n2).heap.size from hk2)).trans ((HK5.out.block k hk1 hkb).trans (HK1.out.block k hk hkb))), Nat.zero_le _, moved_ne hmv1 hk3 (ev ▸ hap.2.1), hap.2.2.1, hap.2.2.2.1, hap.2.2.2.2.1, hap.2.2.2.2.2.1, hap.2.2.2.2.2.2⟩)
    have hnb : ∀ k, k ≤ b → some k ≠ Value.ownBlock (.slice A0 x.stops.length c0) := fun k hk e => by
      have h1 := (((((HS5.out.drewN n2).alloc (.cells #[.string (ba y)] 9)).drewN n3).s).lt (k := k) (by rw [ev]; exact e.symm)).1
      have h2 := HS5.out.hb
      omega
    have hbl6 : ∀ k, k ≤ b → w6.heap[k]? = w5.heap[k]? := fun k hk => (hg1.block k (by have := HO5.out.lt; show k < ((w5.drewN n2).alloc (.cells #[.string (ba y)] 9)).heap.size; rw [World.size_alloc]; show k < w5.heap.size + 1; omega) (hnb k hk)).trans (Below.heap_alloc _ _ _ (by have := HO5.out.lt; show k < w5.heap.size; omega))
    have HO6 := Lib.hid (HO5.out.frame (by have := hg1.size; rw [show ((((w5.drewN n2).alloc (.cells #[.string (ba y)] 9)).drewN n3)).heap.size = w5.heap.size + 1 from World.size_alloc _ _] at this; omega) hbl6)
    have HBL6 := Lib.hid (show Below b w w6 from HK1.out.below.trans (HK5.out.below.trans ((below_drewN ((below_drewN (Below.refl b w5) n2).alloc (Nat.le_of_lt HO5.out.lt) (.cells #[.string (ba y)] 9)) n3).grown hg1 (by have := HO5.out.lt; show b ≤ ((w5.drewN n2).alloc (.cells #[.string (ba y)] 9)).heap.size; rw [World.size_alloc]; show b ≤ w5.heap.size + 1; omega) (fun k hk => Nat.le_of_lt (Nat.lt_of_not_le fun hkb => hnb k hkb hk.symm)))))
    obtain ⟨y1, y2⟩ := HO6.out.cellv 2 (.slice A0 x.stops.length c0) (fun v => by rw [← ev]; rfl)
    clear hown1 hg1 hmv1 hbl6 hnb
    repeat (first | (refine wpKind_free (v := ?_) (by rfl) rfl (by rfl) ?_ ?_; rotate_left 1; (focus (intro wy; go_simp; try with_reducible rfl; done)); try simp only [Act.put, List.setIfInBounds_toArray, List.set_cons_zero, List.set_cons_succ]))
    refine wpKind_serial (by rfl) rfl (fun n4 => ?_)
    go_wp2_with fail
    clear y1 y2
    show wpKind _ _ _ _ _ _ _ _ _
    refine wpKind_nilP fun n5 => ?_
    go_wp2_with fail
    go_end0
    exact .inl ⟨j1, { x with vs := .slice A1 (x.stops.length + 1) c1, stops := x.stops ++ [y] }, rfl, rfl, rfl, ((SOk.put (Y := ({ x with vs := .slice A1 (x.stops.length + 1) c1, stops := x.stops ++ [y] } : SheetM).xv) (HO6.out.drewN n4) 2 (.slice A1 (x.stops.length + 1) c1) (fun v => rfl)).drewN n5), ((HS6.out.reset 2 _).same rfl), below_drewN ((below_drewN HBL6.out n4).setCell (p := ⟨b, 2, none⟩) (Nat.le_refl _) _) n5, fun k hk hkb hap => ⟨(heap_setCell_other (w6.drewN n4) ⟨b, 2, none⟩ k _ hkb).trans (HFR.out k hk hkb hap).1, (HFR.out k hk hkb hap).2⟩⟩
set_option maxHeartbeats 4000000 in
set_option maxRecDepth 100000 in
theorem sstop_m (B b : Nat) (L : List TokD) (i : Nat) (x : SheetM) (w : World) (h : SOk b L i x.xv w) (hs : ShAt B b x w) (hm : SmallS x) (hk : (nowD L (rd i)).kind = 2) :
    Calls Tryz.prog 90 #[.pointer (some ⟨b, 0, none⟩)] w (GotT B b L x w (midT L i x.d kStop)) := by
  have HC := Lib.hid (sgrow_s B b L i x w h hs hm hk)
  have hmf : ∀ (fn : Fn) (first cap : Array Value) (w : World), (Instr.makeFunc fn first cap).run Tryz.prog w = .ok (.func fn first cap) w := fun _ _ _ _ => rfl
  obtain ⟨R, hR⟩ : ∃ R, midT L i x.d kStop = R := ⟨_, rfl⟩
  rw [hR] at HC ⊢
  clear h hs hm hk hR
  go_enter Tryz.func90, Tryz.ntmps90
  go_wp2_with fail
  refine HC.out.mono ?_
  rintro e w1 (⟨j, x1, hr, hd, rfl, ho, hs, hb, ha⟩ | ⟨he, rfl, hb⟩)
  · have HH := Lib.hid (show GotT B b L x w R (.returned (.tuple #[])) w1 from .inl ⟨j, x1, hr, hd, rfl, ho, hs, hb, ha⟩)
    clear hr hd ho hs hb ha HC
    go_wp2_with fail
    go_end0
    exact HH.out
  · have HH := Lib.hid (show GotT B b L x w R (.panicked (give R.1)) w1 from .inr ⟨he, rfl, hb⟩)
    clear he hb HC
    try go_wp2_with fail
    exact ⟨rfl, HH.out⟩
set_option maxHeartbeats 8000000 in
set_option maxRecDepth 100000 in
theorem sgrow_p (B b : Nat) (L : List TokD) (i : Nat) (x : SheetM) (p0 : Nat) (w : World) (h : SOk b L i x.xv w) (hs : ShAt B b x w) (hm : SmallS x) (hp : CapAt p0 b w) (hk : (nowD L (rd i)).kind = 2) :
    Calls Tryz.prog 107 #[.pointer (some ⟨b, 0, none⟩), .pointer (some ⟨b, 3, none⟩), .int .i64 1024, .func (.func 108) #[] #[.pointer (some ⟨p0, 0, none⟩)]] w (GotT B b L x w (midT L i x.d kPath)) := by
  obtain ⟨iT, hiT, hz1, hz2, hz3⟩ := info_parts info_pathQ
  have HLT := Lib.hid h.lt
  have hlen := hm.p
  have HO := Lib.hid h
  have HS := Lib.hid hs
  have HX := Lib.hid hp
  obtain ⟨A0, c0, ev⟩ := ow_slice pc_len hs.p
  have HF := Lib.hid (sfail_any b L i x.xv 3)
  have HE3 := Lib.hid (fail_rd L i 3 (by decide))
  have HTK := Lib.hid (stake_ok b L i x.xv 2 w h hk (kind_lt hk (by decide)))
  have hful : fullD x.d kPath = decide (1024 ≤ x.paths.length) := by unfold fullD; rw [if_neg (by decide)]; rw [if_pos rfl]; rfl
  have x0 : w.cell? ⟨b, 3, none⟩ = some (.slice A0 x.paths.length c0) := (h.cellv 3 _ (fun v => by rw [← ev]; rfl)).1
  unfold midT
  rw [hful]
  obtain ⟨n, hn⟩ : ∃ n, x.paths.length = n := ⟨_, rfl⟩
  by_cases hge : 1024 ≤ n
  · rw [hn, decide_eq_true hge, if_pos rfl]
    rw [hn] at x0
    have c1 : decide ((1024 : Int) ≤ (n : Int)) = true := decide_eq_true (by omega)
    clear h hs hm hp hful ev hge hlen HTK
    go_enter Tryz.func107, Tryz.ntmps107
    go_wp2_with fail
    refine (HF.out w HO.out).mono ?_
    rintro e w4 ⟨rfl, hb⟩
    have HB4 := Lib.hid (hb.mono (Nat.le_of_lt HLT.out))
    clear hb
    try go_wp2_with fail
    exact ⟨rfl, .inr ⟨HE3.out, rfl, HB4.out⟩⟩
  · have c1 : decide ((1024 : Int) ≤ (n : Int)) = false := decide_eq_false (by omega)
    rw [hn, decide_eq_false hge, if_neg (by decide)]
    rw [hn] at x0
    obtain ⟨⟨sN, y⟩, hy⟩ : ∃ r, pathRD L (rd (i + 1)) = r := ⟨_, rfl⟩
    have HTD := Lib.hid (show thingD L (rd (i + 1)) x.d kPath = (sN, { x.d with paths := x.d.paths ++ [y] }) by unfold thingD; rw [if_neg (by decide)]; rw [if_pos rfl]; rw [hy])
    rw [HTD.out]
    have hq9 := fun w9 h9 p9 => spath_any b L (i + 1) x.xv p0 w9 h9 p9
    simp only [hy] at hq9
    dsimp only [pc] at hq9
    have HC := Lib.hid hq9
    have HEV := Lib.hid ev
    have HLE := Lib.hid hlen
    have HNN := Lib.hid hn
    clear hq9 h hs hm hp hful hge hy hlen HF HE3 HTD
    dsimp only [tkc] at HTK
    go_enter Tryz.func107, Tryz.ntmps107
    go_wp2_with fail
    refine HTK.out.mono ?_
    rintro e w1 ⟨rfl, ho, hk1⟩
    have HO1 := Lib.hid ho
    have HK1 := Lib.hid hk1
    have HS1 := Lib.hid (HS.out.keep hk1)
    have HX1 := Lib.hid (HX.out.keep hk1)
    clear ho hk1 x0 HTK
    go_upto_region 3 with fail
    have hSw : w1.cell? ⟨b, 3, none⟩ = some (.slice A0 n c0) := (HO1.out.cellv 3 _ (fun v => by rw [← HNN.out, ← HEV.out]; rfl)).1
    refine wp_region_kindsP [] (fun c w9 => ∃ r : Rd, r.e ≠ 0 ∧ sN = r ∧ c = give r ∧ Below b w w9) ?_ (fun wy => wy.cell? ⟨b, 3, none⟩ = some (.slice A0 n c0)) [5, 6] [7, 9] [3] [0, 1, 2, 4, 8] [0, 1, 2, 3, 4, 5, 6, 7, 8, 9] (by kernel_rfl) (by kernel_rfl) (fun w n h => h) ?_
    · rintro c a w9 hd ⟨r, he, rfl, rfl, hk⟩
      exact ⟨hd, .inr ⟨he, rfl, hk⟩⟩
    repeat (first | (refine wpKind_free (v := ?_) (by rfl) rfl (by rfl) ?_ ?_; rotate_left 1; (focus (intro wy; go_simp; try with_reducible rfl; done)); try simp only [Act.put, List.setIfInBounds_toArray, List.set_cons_zero, List.set_cons_succ]) | (refine wpKind_held (v := ?_) (by rfl) rfl (by rfl) hSw ?_ ?_; rotate_left 1; (focus (intro wy hSy; have s0 := hSy; go_simp; try with_reducible rfl; done)); try simp only [Act.put, List.setIfInBounds_toArray, List.set_cons_zero, List.set_cons_succ]))
    clear hSw
    refine wpKind_keeps (by rfl) rfl (fun n1 => ?_)
    go_wp2_with fail
    refine got_elim (HC.out (w1.drewN n1) (HO1.out.drewN n1) HX1.out) ?_ ?_
    · intro w9 he hk
      exact ⟨rfl, sN, he, rfl, rfl, HK1.out.below.trans (((Keep.refl b w1).drewN n1).trans hk).below⟩
    rintro j1 w5 rfl ho hk
    have HK5 := Lib.hid (((Keep.refl b w1).drewN n1).trans hk)
    have HO5 := Lib.hid ho
    have HS5 := Lib.hid (HS1.out.keep HK5.out)
    clear ho hk HC
    go_wp2_with fail
    show _ ∧ _
    refine ⟨(HO5.out.cellv 3 _ (fun v => by rw [← HNN.out, ← HEV.out]; rfl)).1, ?_⟩
    repeat (first | (refine wpKind_free (v := ?_) (by rfl) rfl (by rfl) ?_ ?_; rotate_left 1; (focus (intro wy; go_simp; try with_reducible rfl; done)); try simp only [Act.put, List.setIfInBounds_toArray, List.set_cons_zero, List.set_cons_succ]))
    refine wpKind_keeps (by rfl) rfl (fun n2 => ?_)
    go_wp2_with fail
    show _ ∧ _
    refine ⟨((HO5.out.drewN n2).new ((Below.refl _ _).alloc (Nat.le_refl _) (.cells #[.string (ba y.name), .string (ba y.a), .string (ba y.b), .int .i64 y.len] 61))).cellv 3 _ (fun v => by rw [← HNN.out, ← HEV.out]; rfl) |>.1, ?_⟩
    refine wpKind_serial (by rfl) rfl (fun n3 => ?_)
    have hlen := HLE.out
    have hn := HNN.out
    have ev := HEV.out
    subst hn
    go_wp2_with (at_builtin; refine wpList_append_sl _ rfl _ _ _ rfl B 61 iT _ 56 Tryz.underlying23 hiT hz1 hz2 hz3 rfl (by omega) pc_len pc_one _ _ x.paths [y] rfl rfl ((ev ▸ (((HS5.out.drewN n2).alloc (.cells #[.string (ba y.name), .string (ba y.a), .string (ba y.b), .int .i64 y.len] 61)).drewN n3).p)) (((Sl.new1 y rfl).drewN n3)) (by simp only [maxLen, List.length_cons, List.length_nil]; omega) (by simp only [List.length_cons, List.length_nil]; omega) ((((HS5.out.drewN n2).alloc (.cells #[.string (ba y.name), .string (ba y.a), .string (ba y.b), .int .i64 y.len] 61)).drewN n3).hB) ?_; intro v1 w6 hown1 hg1 hmv1; obtain ⟨A1, c1, rfl⟩ : ∃ A cap, v1 = .slice A (x.paths.length + 1) cap := (by obtain ⟨A, cap, e⟩ := ow_slice pc_len hown1; exact ⟨A, cap, by rw [e]; simp⟩))
    have HS6 := Lib.hid ((((HS5.out.drewN n2).alloc (.cells #[.string (ba y.name), .string (ba y.a), .string (ba y.b), .int .i64 y.len] 61)).drewN n3).put_p hown1 (ev.symm ▸ hg1) (ev.symm ▸ hmv1))
    have HFR := Lib.hid (show ∀ k, k < w.heap.size → k ≠ b → apartP x 0 k → w6.heap[k]? = w.heap[k]? ∧ apartP ({ x with vp := .slice A1 (x.paths.length + 1) c1, paths := x.paths ++ [y] } : SheetM) 0 k from fun k hk hkb hap => by
      have hk1 : k < w1.heap.size := Nat.lt_of_lt_of_le hk HK1.out.size
      have hk2 : k < w5.heap.size := Nat.lt_of_lt_of_le hk1 HK5.out.size
      have hk3 : k < (((w5.drewN n2).alloc (.cells #[.string (ba y.name), .string (ba y.a), .string (ba y.b), .int .i64 y.len] 61)).drewN n3).heap.size := by show k < ((w5.drewN n2).alloc (.cells #[.string (ba y.name), .string (ba y.a), .string (ba y.b), .int .i64 y.len] 61)).heap.size; rw [World.size_alloc]; show k < w5.heap.size + 1; omega
      refine ⟨(hg1.block k hk3 (by rw [← ev]; exact hap.2.2.1)).trans ((Below.heap_alloc _ _ _ (show k < (w5.drewN n2).heap.size from hk2)).trans ((HK5.out.block k hk1 hkb).trans (HK1.out.block k hk hkb))), Nat.zero_le _, hap.2.1, moved_ne hmv1 hk3 (ev ▸ hap.2.2.1), hap.2.2.2.1, hap.2.2.2.2.1, hap.2.2.2.2.2.1, hap.2.2.2.2.2.2⟩)
    have hnb : ∀ k, k ≤ b → some k ≠ Value.ownBlock (.slice A0 x.paths.length c0) := fun k hk e => by
      have h1 := (((((HS5.out.drewN n2).alloc (.cells #[.string (ba y.name), .string (ba y.a), .string (ba y.b), .int .i64 y.len] 61)).drewN n3).p).lt (k := k) (by rw [ev]; exact e.symm)).1
      have h2 := HS5.out.hb
      omega
    have hbl6 : ∀ k, k ≤ b → w6.heap[k]? = w5.heap[k]? := fun k hk => (hg1.block k (by have := HO5.out.lt; show k < ((w5.drewN n2).alloc (.cells #[.string (ba y.name), .string (ba y.a), .string (ba y.b), .int .i64 y.len] 61)).heap.size; rw [World.size_alloc]; show k < w5.heap.size + 1; omega) (hnb k hk)).trans (Below.heap_alloc _ _ _ (by have := HO5.out.lt; show k < w5.heap.size; omega))
    have HO6 := Lib.hid (HO5.out.frame (by have := hg1.size; rw [show ((((w5.drewN n2).alloc (.cells #[.string (ba y.name), .string (ba y.a), .string (ba y.b), .int .i64 y.len] 61)).drewN n3)).heap.size = w5.heap.size + 1 from World.size_alloc _ _] at this; omega) hbl6)
    have HBL6 := Lib.hid (show Below b w w6 from HK1.out.below.trans (HK5.out.below.trans ((below_drewN ((below_drewN (Below.refl b w5) n2).alloc (Nat.le_of_lt HO5.out.lt) (.cells #[.string (ba y.name), .string (ba y.a), .string (ba y.b), .int .i64 y.len] 61)) n3).grown hg1 (by have := HO5.out.lt; show b ≤ ((w5.drewN n2).alloc (.cells #[.string (ba y.name), .string (ba y.a), .string (ba y.b), .int .i64 y.len] 61)).heap.size; rw [World.size_alloc]; show b ≤ w5.heap.size + 1; omega) (fun k hk => Nat.le_of_lt (Nat.lt_of_not_le fun hkb => hnb k hkb hk.symm)))))
    obtain ⟨y1, y2⟩ := HO6.out.cellv 3 (.slice A0 x.paths.length c0) (fun v => by rw [← ev]; rfl)
    clear hown1 hg1 hmv1 hbl6 hnb
    repeat (first | (refine wpKind_free (v := ?_) (by rfl) rfl (by rfl) ?_ ?_; rotate_left 1; (focus (intro wy; go_simp; try with_reducible rfl; done)); try simp only [Act.put, List.setIfInBounds_toArray, List.set_cons_zero, List.set_cons_succ]))
    refine wpKind_serial (by rfl) rfl (fun n4 => ?_)
    go_wp2_with fail
    clear y1 y2
    show wpKind _ _ _ _ _ _ _ _ _
    refine wpKind_nilP fun n5 => ?_
    go_wp2_with fail
    go_end0
    exact .inl ⟨j1, { x with vp := .slice A1 (x.paths.length + 1) c1, paths := x.paths ++ [y] }, rfl, rfl, rfl, ((SOk.put (Y := ({ x with vp := .slice A1 (x.paths.length + 1) c1, paths := x.paths ++ [y] } : SheetM).xv) (HO6.out.drewN n4) 3 (.slice A1 (x.paths.length + 1) c1) (fun v => rfl)).drewN n5), ((HS6.out.reset 3 _).same rfl), below_drewN ((below_drewN HBL6.out n4).setCell (p := ⟨b, 3, none⟩) (Nat.le_refl _) _) n5, fun k hk hkb hap => ⟨(heap_setCell_other (w6.drewN n4) ⟨b, 3, none⟩ k _ hkb).trans (HFR.out k hk hkb hap).1, (HFR.out k hk hkb hap).2⟩⟩
set_option maxHeartbeats 4000000 in
set_option maxRecDepth 100000 in
theorem spath_m (B b : Nat) (L : List TokD) (i : Nat) (x : SheetM) (w : World) (h : SOk b L i x.xv w) (hs : ShAt B b x w) (hm : SmallS x) (hk : (nowD L (rd i)).kind = 2) :
    Calls Tryz.prog 91 #[.pointer (some ⟨b, 0, none⟩)] w (GotT B b L x w (midT L i x.d kPath)) := by
  have HLT := Lib.hid h.lt
  have HC := Lib.hid (fun w2 h2 s2 p2 => sgrow_p B b L i x w.heap.size w2 h2 s2 hm p2 hk)
  have HO := Lib.hid h
  have HS := Lib.hid hs
  have hmf : ∀ (fn : Fn) (first cap : Array Value) (w : World), (Instr.makeFunc fn first cap).run Tryz.prog w = .ok (.func fn first cap) w := fun _ _ _ _ => rfl
  obtain ⟨R, hR⟩ : ∃ R, midT L i x.d kPath = R := ⟨_, rfl⟩
  rw [hR] at HC ⊢
  clear h hs hm hk hR
  go_enter Tryz.func91, Tryz.ntmps91
  go_upto_region 1 with fail
  obtain ⟨p0, hp0⟩ : ∃ p0, w.heap.size = p0 := ⟨_, rfl⟩
  obtain ⟨w1, hw1⟩ : ∃ w1, w.alloc (.cells #[.pointer (some ⟨b, 0, none⟩)] 76) = w1 := ⟨_, rfl⟩
  have hb1 : Below w.heap.size w w1 := by rw [← hw1]; exact (Below.refl _ _).alloc (Nat.le_refl _) _
  have HX1 := Lib.hid (show CapAt p0 b w1 from ⟨by rw [← hw1, ← hp0]; exact heap_alloc_new _ _, by rw [← hp0]; exact HLT.out⟩)
  have HO1 := Lib.hid (HO.out.new hb1)
  have HS1 := Lib.hid (HS.out.keep (Keep.of hb1 (Nat.le_of_lt HLT.out)))
  have HB1 := Lib.hid (hb1.mono (Nat.le_of_lt HLT.out))
  have HKK := Lib.hid (Keep.of hb1 (Nat.le_of_lt HLT.out))
  try rw [hw1]
  try rw [hp0]
  rw [hp0] at HC
  clear hw1 hp0 hb1
  have hSw : w1.cell? ⟨p0, 0, none⟩ = some (.pointer (some ⟨b, 0, none⟩)) := HX1.out.cell
  refine wp_region_kindsP [] (fun c w9 => R.1.e ≠ 0 ∧ c = give R.1 ∧ Below b w w9) ?_ (fun wy => wy.cell? ⟨p0, 0, none⟩ = some (.pointer (some ⟨b, 0, none⟩))) [] [6] [0, 1] [2, 3, 4, 5] [0, 1, 2, 3, 4, 5, 6] (by kernel_rfl) (by kernel_rfl) (fun w n h => h) ?_
  · rintro c a w9 hd ⟨he, rfl, hb⟩
    exact ⟨hd, .inr ⟨he, rfl, hb⟩⟩
  repeat (first | (refine wpKind_free (v := ?_) (by rfl) rfl (by rfl) ?_ ?_; rotate_left 1; (focus (intro wy; go_simp; try with_reducible rfl; done)); try simp only [Act.put, List.setIfInBounds_toArray, List.set_cons_zero, List.set_cons_succ]) | (refine wpKind_held (v := ?_) (by rfl) rfl (by rfl) hSw ?_ ?_; rotate_left 1; (focus (intro wy hSy; have s0 : wy.cell? ⟨p0, 0, none⟩ = some (.pointer (some ⟨b, 0, none⟩)) := hSy; go_simp; try with_reducible rfl; done)); try simp only [Act.put, List.setIfInBounds_toArray, List.set_cons_zero, List.set_cons_succ]))
  clear hSw
  refine wpKind_serial (by rfl) rfl (fun n1 => ?_)
  go_wp2_with fail
  refine (HC.out (w1.drewN n1) (HO1.out.drewN n1) (HS1.out.drewN n1) HX1.out).mono ?_
  rintro e w2 (⟨j, x1, hr, hd, rfl, ho, hs, hb, ha⟩ | ⟨he, rfl, hb⟩)
  · have HH := Lib.hid (show ∀ n, GotT B b L x w R (.returned (.tuple #[])) (w2.drewN n) from fun n => .inl ⟨j, x1, hr, hd, rfl, ho.drewN n, hs.drewN n, below_drewN ((below_drewN HB1.out n1).trans hb) n, Apart.pre (fun k h1 h2 h3 => ha k h1 h2 h3) (HKK.out.drewN n1)⟩)
    clear hr hd ho hs hb ha HC
    go_wp2_with fail
    show wpKind _ _ _ _ _ _ _ _ _
    refine wpKind_nilP fun n2 => ?_
    go_wp2_with fail
    go_end0
    exact HH.out n2
  · exact ⟨rfl, he, rfl, (below_drewN HB1.out n1).trans hb⟩
set_option maxHeartbeats 8000000 in
set_option maxRecDepth 100000 in
theorem sgrow_d (B b : Nat) (L : List TokD) (i : Nat) (x : SheetM) (p0 : Nat) (w : World) (h : SOk b L i x.xv w) (hs : ShAt B b x w) (hm : SmallS x) (hp : CapAt p0 b w) (hk : (nowD L (rd i)).kind = 2) :
    Calls Tryz.prog 109 #[.pointer (some ⟨b, 0, none⟩), .pointer (some ⟨b, 4, none⟩), .int .i64 256, .func (.func 110) #[] #[.pointer (some ⟨p0, 0, none⟩)]] w (GotT B b L x w (midT L i x.d kDoor)) := by
  obtain ⟨iT, hiT, hz1, hz2, hz3⟩ := info_parts info_doorQ
  have HLT := Lib.hid h.lt
  have hlen := hm.d
  have HO := Lib.hid h
  have HS := Lib.hid hs
  have HX := Lib.hid hp
  obtain ⟨A0, c0, ev⟩ := ow_slice dc_len hs.d
  have HF := Lib.hid (sfail_any b L i x.xv 3)
  have HE3 := Lib.hid (fail_rd L i 3 (by decide))
  have HTK := Lib.hid (stake_ok b L i x.xv 2 w h hk (kind_lt hk (by decide)))
  have hful : fullD x.d kDoor = decide (256 ≤ x.doors.length) := by unfold fullD; rw [if_neg (by decide)]; rw [if_neg (by decide)]; rw [if_pos rfl]; rfl
  have x0 : w.cell? ⟨b, 4, none⟩ = some (.slice A0 x.doors.length c0) := (h.cellv 4 _ (fun v => by rw [← ev]; rfl)).1
  unfold midT
  rw [hful]
  obtain ⟨n, hn⟩ : ∃ n, x.doors.length = n := ⟨_, rfl⟩
  by_cases hge : 256 ≤ n
  · rw [hn, decide_eq_true hge, if_pos rfl]
    rw [hn] at x0
    have c1 : decide ((256 : Int) ≤ (n : Int)) = true := decide_eq_true (by omega)
    clear h hs hm hp hful ev hge hlen HTK
    go_enter Tryz.func109, Tryz.ntmps109
    go_wp2_with fail
    refine (HF.out w HO.out).mono ?_
    rintro e w4 ⟨rfl, hb⟩
    have HB4 := Lib.hid (hb.mono (Nat.le_of_lt HLT.out))
    clear hb
    try go_wp2_with fail
    exact ⟨rfl, .inr ⟨HE3.out, rfl, HB4.out⟩⟩
  · have c1 : decide ((256 : Int) ≤ (n : Int)) = false := decide_eq_false (by omega)
    rw [hn, decide_eq_false hge, if_neg (by decide)]
    rw [hn] at x0
    obtain ⟨⟨sN, y⟩, hy⟩ : ∃ r, doorRD L (rd (i + 1)) = r := ⟨_, rfl⟩
    have HTD := Lib.hid (show thingD L (rd (i + 1)) x.d kDoor = (sN, { x.d with doors := x.d.doors ++ [y] }) by unfold thingD; rw [if_neg (by decide)]; rw [if_neg (by decide)]; rw [if_pos rfl]; rw [hy])
    rw [HTD.out]
    have hq9 := fun w9 h9 p9 => sdoor_any b L (i + 1) x.xv p0 w9 h9 p9
    simp only [hy] at hq9
    dsimp only [dc] at hq9
    have HC := Lib.hid hq9
    have HEV := Lib.hid ev
    have HLE := Lib.hid hlen
    have HNN := Lib.hid hn
    clear hq9 h hs hm hp hful hge hy hlen HF HE3 HTD
    dsimp only [tkc] at HTK
    go_enter Tryz.func109, Tryz.ntmps109
    go_wp2_with fail
    refine HTK.out.mono ?_
    rintro e w1 ⟨rfl, ho, hk1⟩
    have HO1 := Lib.hid ho
    have HK1 := Lib.hid hk1
    have HS1 := Lib.hid (HS.out.keep hk1)
    have HX1 := Lib.hid (HX.out.keep hk1)
    clear ho hk1 x0 HTK
    go_upto_region 3 with fail
    have hSw : w1.cell? ⟨b, 4, none⟩ = some (.slice A0 n c0) := (HO1.out.cellv 4 _ (fun v => by rw [← HNN.out, ← HEV.out]; rfl)).1
    refine wp_region_kindsP [] (fun c w9 => ∃ r : Rd, r.e ≠ 0 ∧ sN = r ∧ c = give r ∧ Below b w w9) ?_ (fun wy => wy.cell? ⟨b, 4, none⟩ = some (.slice A0 n c0)) [5, 6] [7, 9] [3] [0, 1, 2, 4, 8] [0, 1, 2, 3, 4, 5, 6, 7, 8, 9] (by kernel_rfl) (by kernel_rfl) (fun w n h => h) ?_
    · rintro c a w9 hd ⟨r, he, rfl, rfl, hk⟩
      exact ⟨hd, .inr ⟨he, rfl, hk⟩⟩
    repeat (first | (refine wpKind_free (v := ?_) (by rfl) rfl (by rfl) ?_ ?_; rotate_left 1; (focus (intro wy; go_simp; try with_reducible rfl; done)); try simp only [Act.put, List.setIfInBounds_toArray, List.set_cons_zero, List.set_cons_succ]) | (refine wpKind_held (v := ?_) (by rfl) rfl (by rfl) hSw ?_ ?_; rotate_left 1; (focus (intro wy hSy; have s0 := hSy; go_simp; try with_reducible rfl; done)); try simp only [Act.put, List.setIfInBounds_toArray, List.set_cons_zero, List.set_cons_succ]))
    clear hSw
    refine wpKind_keeps (by rfl) rfl (fun n1 => ?_)
    go_wp2_with fail
    refine got_elim (HC.out (w1.drewN n1) (HO1.out.drewN n1) HX1.out) ?_ ?_
    · intro w9 he hk
      exact ⟨rfl, sN, he, rfl, rfl, HK1.out.below.trans (((Keep.refl b w1).drewN n1).trans hk).below⟩
    rintro j1 w5 rfl ho hk
    have HK5 := Lib.hid (((Keep.refl b w1).drewN n1).trans hk)
    have HO5 := Lib.hid ho
    have HS5 := Lib.hid (HS1.out.keep HK5.out)
    clear ho hk HC
    go_wp2_with fail
    show _ ∧ _
    refine ⟨(HO5.out.cellv 4 _ (fun v => by rw [← HNN.out, ← HEV.out]; rfl)).1, ?_⟩
    repeat (first | (refine wpKind_free (v := ?_) (by rfl) rfl (by rfl) ?_ ?_; rotate_left 1; (focus (intro wy; go_simp; try with_reducible rfl; done)); try simp only [Act.put, List.setIfInBounds_toArray, List.set_cons_zero, List.set_cons_succ]))
    refine wpKind_keeps (by rfl) rfl (fun n2 => ?_)
    go_wp2_with fail
    show _ ∧ _
    refine ⟨((HO5.out.drewN n2).new ((Below.refl _ _).alloc (Nat.le_refl _) (.cells #[.string (ba y.name), .string (ba y.a), .string (ba y.b), .int .i64 y.len, .int .i64 y.times.start, .int .i64 y.times.every, .int .i64 y.times.len] 50))).cellv 4 _ (fun v => by rw [← HNN.out, ← HEV.out]; rfl) |>.1, ?_⟩
    refine wpKind_serial (by rfl) rfl (fun n3 => ?_)
    have hlen := HLE.out
    have hn := HNN.out
    have ev := HEV.out
    subst hn
    go_wp2_with (at_builtin; refine wpList_append_sl _ rfl _ _ _ rfl B 50 iT _ 80 Tryz.underlying24 hiT hz1 hz2 hz3 rfl (by omega) dc_len dc_one _ _ x.doors [y] rfl rfl ((ev ▸ (((HS5.out.drewN n2).alloc (.cells #[.string (ba y.name), .string (ba y.a), .string (ba y.b), .int .i64 y.len, .int .i64 y.times.start, .int .i64 y.times.every, .int .i64 y.times.len] 50)).drewN n3).d)) (((Sl.new1 y rfl).drewN n3)) (by simp only [maxLen, List.length_cons, List.length_nil]; omega) (by simp only [List.length_cons, List.length_nil]; omega) ((((HS5.out.drewN n2).alloc (.cells #[.string (ba y.name), .string (ba y.a), .string (ba y.b), .int .i64 y.len, .int .i64 y.times.start, .int .i64 y.times.every, .int .i64 y.times.len] 50)).drewN n3).hB) ?_; intro v1 w6 hown1 hg1 hmv1; obtain ⟨A1, c1, rfl⟩ : ∃ A cap, v1 = .slice A (x.doors.length + 1) cap := (by obtain ⟨A, cap, e⟩ := ow_slice dc_len hown1; exact ⟨A, cap, by rw [e]; simp⟩))
    have HS6 := Lib.hid ((((HS5.out.drewN n2).alloc (.cells #[.string (ba y.name), .string (ba y.a), .string (ba y.b), .int .i64 y.len, .int .i64 y.times.start, .int .i64 y.times.every, .int .i64 y.times.len] 50)).drewN n3).put_d hown1 (ev.symm ▸ hg1) (ev.symm ▸ hmv1))
    have HFR := Lib.hid (show ∀ k, k < w.heap.size → k ≠ b → apartP x 0 k → w6.heap[k]? = w.heap[k]? ∧ apartP ({ x with vd := .slice A1 (x.doors.length + 1) c1, doors := x.doors ++ [y] } : SheetM) 0 k from fun k hk hkb hap => by
      have hk1 : k < w1.heap.size := Nat.lt_of_lt_of_le hk HK1.out.size
      have hk2 : k < w5.heap.size := Nat.lt_of_lt_of_le hk1 HK5.out.size
      have hk3 : k < (((w5.drewN n2).alloc (.cells #[.string (ba y.name), .string (ba y.a), .string (ba y.b), .int .i64 y.len, .int .i64 y.times.start, .int .i64 y.times.every, .int .i64 y.times.len] 50)).drewN n3).heap.size := by show k < ((w5.drewN n2).alloc (.cells #[.string (ba y.name), .string (ba y.a), .string (ba y.b), .int .i64 y.len, .int .i64 y.times.start, .int .i64 y.times.every, .int .i64 y.times.len] 50)).heap.size; rw [World.size_alloc]; show k < w5.heap.size + 1; omega
      refine ⟨(hg1.block k hk3 (by rw [← ev]; exact hap.2.2.2.1)).trans ((Below.heap_alloc _ _ _ (show k < (w5.drewN n2).heap.size from hk2)).trans ((HK5.out.block k hk1 hkb).trans (HK1.out.block k hk hkb))), Nat.zero_le _, hap.2.1, hap.2.2.1, moved_ne hmv1 hk3 (ev ▸ hap.2.2.2.1), hap.2.2.2.2.1, hap.2.2.2.2.2.1, hap.2.2.2.2.2.2⟩)
    have hnb : ∀ k, k ≤ b → some k ≠ Value.ownBlock (.slice A0 x.doors.length c0) := fun k hk e => by
      have h1 := (((((HS5.out.drewN n2).alloc (.cells #[.string (ba y.name), .string (ba y.a), .string (ba y.b), .int .i64 y.len, .int .i64 y.times.start, .int .i64 y.times.every, .int .i64 y.times.len] 50)).drewN n3).d).lt (k := k) (by rw [ev]; exact e.symm)).1
      have h2 := HS5.out.hb
      omega
    have hbl6 : ∀ k, k ≤ b → w6.heap[k]? = w5.heap[k]? := fun k hk => (hg1.block k (by have := HO5.out.lt; show k < ((w5.drewN n2).alloc (.cells #[.string (ba y.name), .string (ba y.a), .string (ba y.b), .int .i64 y.len, .int .i64 y.times.start, .int .i64 y.times.every, .int .i64 y.times.len] 50)).heap.size; rw [World.size_alloc]; show k < w5.heap.size + 1; omega) (hnb k hk)).trans (Below.heap_alloc _ _ _ (by have := HO5.out.lt; show k < w5.heap.size; omega))
    have HO6 := Lib.hid (HO5.out.frame (by have := hg1.size; rw [show ((((w5.drewN n2).alloc (.cells #[.string (ba y.name), .string (ba y.a), .string (ba y.b), .int .i64 y.len, .int .i64 y.times.start, .int .i64 y.times.every, .int .i64 y.times.len] 50)).drewN n3)).heap.size = w5.heap.size + 1 from World.size_alloc _ _] at this; omega) hbl6)
    have HBL6 := Lib.hid (show Below b w w6 from HK1.out.below.trans (HK5.out.below.trans ((below_drewN ((below_drewN (Below.refl b w5) n2).alloc (Nat.le_of_lt HO5.out.lt) (.cells #[.string (ba y.name), .string (ba y.a), .string (ba y.b), .int .i64 y.len, .int .i64 y.times.start, .int .i64 y.times.every, .int .i64 y.times.len] 50)) n3).grown hg1 (by have := HO5.out.lt; show b ≤ ((w5.drewN n2).alloc (.cells #[.string (ba y.name), .string (ba y.a), .string (ba y.b), .int .i64 y.len, .int .i64 y.times.start, .int .i64 y.times.every, .int .i64 y.times.len] 50)).heap.size; rw [World.size_alloc]; show b ≤ w5.heap.size + 1; omega) (fun k hk => Nat.le_of_lt (Nat.lt_of_not_le fun hkb => hnb k hkb hk.symm)))))
    obtain ⟨y1, y2⟩ := HO6.out.cellv 4 (.slice A0 x.doors.length c0) (fun v => by rw [← ev]; rfl)
    clear hown1 hg1 hmv1 hbl6 hnb
    repeat (first | (refine wpKind_free (v := ?_) (by rfl) rfl (by rfl) ?_ ?_; rotate_left 1; (focus (intro wy; go_simp; try with_reducible rfl; done)); try simp only [Act.put, List.setIfInBounds_toArray, List.set_cons_zero, List.set_cons_succ]))
    refine wpKind_serial (by rfl) rfl (fun n4 => ?_)
    go_wp2_with fail
    clear y1 y2
    show wpKind _ _ _ _ _ _ _ _ _
    refine wpKind_nilP fun n5 => ?_
    go_wp2_with fail
    go_end0
    exact .inl ⟨j1, { x with vd := .slice A1 (x.doors.length + 1) c1, doors := x.doors ++ [y] }, rfl, rfl, rfl, ((SOk.put (Y := ({ x with vd := .slice A1 (x.doors.length + 1) c1, doors := x.doors ++ [y] } : SheetM).xv) (HO6.out.drewN n4) 4 (.slice A1 (x.doors.length + 1) c1) (fun v => rfl)).drewN n5), ((HS6.out.reset 4 _).same rfl), below_drewN ((below_drewN HBL6.out n4).setCell (p := ⟨b, 4, none⟩) (Nat.le_refl _) _) n5, fun k hk hkb hap => ⟨(heap_setCell_other (w6.drewN n4) ⟨b, 4, none⟩ k _ hkb).trans (HFR.out k hk hkb hap).1, (HFR.out k hk hkb hap).2⟩⟩
set_option maxHeartbeats 4000000 in
set_option maxRecDepth 100000 in
theorem sdoor_m (B b : Nat) (L : List TokD) (i : Nat) (x : SheetM) (w : World) (h : SOk b L i x.xv w) (hs : ShAt B b x w) (hm : SmallS x) (hk : (nowD L (rd i)).kind = 2) :
    Calls Tryz.prog 92 #[.pointer (some ⟨b, 0, none⟩)] w (GotT B b L x w (midT L i x.d kDoor)) := by
  have HLT := Lib.hid h.lt
  have HC := Lib.hid (fun w2 h2 s2 p2 => sgrow_d B b L i x w.heap.size w2 h2 s2 hm p2 hk)
  have HO := Lib.hid h
  have HS := Lib.hid hs
  have hmf : ∀ (fn : Fn) (first cap : Array Value) (w : World), (Instr.makeFunc fn first cap).run Tryz.prog w = .ok (.func fn first cap) w := fun _ _ _ _ => rfl
  obtain ⟨R, hR⟩ : ∃ R, midT L i x.d kDoor = R := ⟨_, rfl⟩
  rw [hR] at HC ⊢
  clear h hs hm hk hR
  go_enter Tryz.func92, Tryz.ntmps92
  go_upto_region 1 with fail
  obtain ⟨p0, hp0⟩ : ∃ p0, w.heap.size = p0 := ⟨_, rfl⟩
  obtain ⟨w1, hw1⟩ : ∃ w1, w.alloc (.cells #[.pointer (some ⟨b, 0, none⟩)] 76) = w1 := ⟨_, rfl⟩
  have hb1 : Below w.heap.size w w1 := by rw [← hw1]; exact (Below.refl _ _).alloc (Nat.le_refl _) _
  have HX1 := Lib.hid (show CapAt p0 b w1 from ⟨by rw [← hw1, ← hp0]; exact heap_alloc_new _ _, by rw [← hp0]; exact HLT.out⟩)
  have HO1 := Lib.hid (HO.out.new hb1)
  have HS1 := Lib.hid (HS.out.keep (Keep.of hb1 (Nat.le_of_lt HLT.out)))
  have HB1 := Lib.hid (hb1.mono (Nat.le_of_lt HLT.out))
  have HKK := Lib.hid (Keep.of hb1 (Nat.le_of_lt HLT.out))
  try rw [hw1]
  try rw [hp0]
  rw [hp0] at HC
  clear hw1 hp0 hb1
  have hSw : w1.cell? ⟨p0, 0, none⟩ = some (.pointer (some ⟨b, 0, none⟩)) := HX1.out.cell
  refine wp_region_kindsP [] (fun c w9 => R.1.e ≠ 0 ∧ c = give R.1 ∧ Below b w w9) ?_ (fun wy => wy.cell? ⟨p0, 0, none⟩ = some (.pointer (some ⟨b, 0, none⟩))) [] [6] [0, 1] [2, 3, 4, 5] [0, 1, 2, 3, 4, 5, 6] (by kernel_rfl) (by kernel_rfl) (fun w n h => h) ?_
  · rintro c a w9 hd ⟨he, rfl, hb⟩
    exact ⟨hd, .inr ⟨he, rfl, hb⟩⟩
  repeat (first | (refine wpKind_free (v := ?_) (by rfl) rfl (by rfl) ?_ ?_; rotate_left 1; (focus (intro wy; go_simp; try with_reducible rfl; done)); try simp only [Act.put, List.setIfInBounds_toArray, List.set_cons_zero, List.set_cons_succ]) | (refine wpKind_held (v := ?_) (by rfl) rfl (by rfl) hSw ?_ ?_; rotate_left 1; (focus (intro wy hSy; have s0 : wy.cell? ⟨p0, 0, none⟩ = some (.pointer (some ⟨b, 0, none⟩)) := hSy; go_simp; try with_reducible rfl; done)); try simp only [Act.put, List.setIfInBounds_toArray, List.set_cons_zero, List.set_cons_succ]))
  clear hSw
  refine wpKind_serial (by rfl) rfl (fun n1 => ?_)
  go_wp2_with fail
  refine (HC.out (w1.drewN n1) (HO1.out.drewN n1) (HS1.out.drewN n1) HX1.out).mono ?_
  rintro e w2 (⟨j, x1, hr, hd, rfl, ho, hs, hb, ha⟩ | ⟨he, rfl, hb⟩)
  · have HH := Lib.hid (show ∀ n, GotT B b L x w R (.returned (.tuple #[])) (w2.drewN n) from fun n => .inl ⟨j, x1, hr, hd, rfl, ho.drewN n, hs.drewN n, below_drewN ((below_drewN HB1.out n1).trans hb) n, Apart.pre (fun k h1 h2 h3 => ha k h1 h2 h3) (HKK.out.drewN n1)⟩)
    clear hr hd ho hs hb ha HC
    go_wp2_with fail
    show wpKind _ _ _ _ _ _ _ _ _
    refine wpKind_nilP fun n2 => ?_
    go_wp2_with fail
    go_end0
    exact HH.out n2
  · exact ⟨rfl, he, rfl, (below_drewN HB1.out n1).trans hb⟩
set_option maxHeartbeats 8000000 in
set_option maxRecDepth 100000 in
theorem sgrow_t (B b : Nat) (L : List TokD) (i : Nat) (x : SheetM) (p0 : Nat) (w : World) (h : SOk b L i x.xv w) (hs : ShAt B b x w) (hm : SmallS x) (hp : CapAt p0 b w) (hk : (nowD L (rd i)).kind = 2) :
    Calls Tryz.prog 114 #[.pointer (some ⟨b, 0, none⟩), .pointer (some ⟨b, 6, none⟩), .int .i64 1024, .func (.func 115) #[] #[.pointer (some ⟨p0, 0, none⟩)]] w (GotT B b L x w (midT L i x.d kTrip)) := by
  obtain ⟨iT, hiT, hz1, hz2, hz3⟩ := info_parts info_tripQ
  have HLT := Lib.hid h.lt
  have hlen := hm.t
  have HO := Lib.hid h
  have HS := Lib.hid hs
  have HX := Lib.hid hp
  obtain ⟨A0, c0, ev⟩ := ow_slice trc_len hs.t
  have HF := Lib.hid (sfail_any b L i x.xv 3)
  have HE3 := Lib.hid (fail_rd L i 3 (by decide))
  have HTK := Lib.hid (stake_ok b L i x.xv 2 w h hk (kind_lt hk (by decide)))
  have hful : fullD x.d kTrip = decide (1024 ≤ x.trips.length) := by unfold fullD; rw [if_neg (by decide)]; rw [if_neg (by decide)]; rw [if_neg (by decide)]; rw [if_neg (by decide)]; rw [if_pos rfl]; rfl
  have x0 : w.cell? ⟨b, 6, none⟩ = some (.slice A0 x.trips.length c0) := (h.cellv 6 _ (fun v => by rw [← ev]; rfl)).1
  unfold midT
  rw [hful]
  obtain ⟨n, hn⟩ : ∃ n, x.trips.length = n := ⟨_, rfl⟩
  by_cases hge : 1024 ≤ n
  · rw [hn, decide_eq_true hge, if_pos rfl]
    rw [hn] at x0
    have c1 : decide ((1024 : Int) ≤ (n : Int)) = true := decide_eq_true (by omega)
    clear h hs hm hp hful ev hge hlen HTK
    go_enter Tryz.func114, Tryz.ntmps114
    go_wp2_with fail
    refine (HF.out w HO.out).mono ?_
    rintro e w4 ⟨rfl, hb⟩
    have HB4 := Lib.hid (hb.mono (Nat.le_of_lt HLT.out))
    clear hb
    try go_wp2_with fail
    exact ⟨rfl, .inr ⟨HE3.out, rfl, HB4.out⟩⟩
  · have c1 : decide ((1024 : Int) ≤ (n : Int)) = false := decide_eq_false (by omega)
    rw [hn, decide_eq_false hge, if_neg (by decide)]
    rw [hn] at x0
    obtain ⟨⟨sN, y⟩, hy⟩ : ∃ r, tripRD L (rd (i + 1)) = r := ⟨_, rfl⟩
    have HTD := Lib.hid (show thingD L (rd (i + 1)) x.d kTrip = (sN, { x.d with trips := x.d.trips ++ [y] }) by unfold thingD; rw [if_neg (by decide)]; rw [if_neg (by decide)]; rw [if_neg (by decide)]; rw [if_neg (by decide)]; rw [if_pos rfl]; rw [hy])
    rw [HTD.out]
    have hq9 := fun w9 h9 p9 => strip_any b L (i + 1) x.xv p0 w9 h9 p9
    simp only [hy] at hq9
    dsimp only [trc] at hq9
    have HC := Lib.hid hq9
    have HEV := Lib.hid ev
    have HLE := Lib.hid hlen
    have HNN := Lib.hid hn
    clear hq9 h hs hm hp hful hge hy hlen HF HE3 HTD
    dsimp only [tkc] at HTK
    go_enter Tryz.func114, Tryz.ntmps114
    go_wp2_with fail
    refine HTK.out.mono ?_
    rintro e w1 ⟨rfl, ho, hk1⟩
    have HO1 := Lib.hid ho
    have HK1 := Lib.hid hk1
    have HS1 := Lib.hid (HS.out.keep hk1)
    have HX1 := Lib.hid (HX.out.keep hk1)
    clear ho hk1 x0 HTK
    go_upto_region 3 with fail
    have hSw : w1.cell? ⟨b, 6, none⟩ = some (.slice A0 n c0) := (HO1.out.cellv 6 _ (fun v => by rw [← HNN.out, ← HEV.out]; rfl)).1
    refine wp_region_kindsP [] (fun c w9 => ∃ r : Rd, r.e ≠ 0 ∧ sN = r ∧ c = give r ∧ Below b w w9) ?_ (fun wy => wy.cell? ⟨b, 6, none⟩ = some (.slice A0 n c0)) [5, 6] [7, 9] [3] [0, 1, 2, 4, 8] [0, 1, 2, 3, 4, 5, 6, 7, 8, 9] (by kernel_rfl) (by kernel_rfl) (fun w n h => h) ?_
    · rintro c a w9 hd ⟨r, he, rfl, rfl, hk⟩
      exact ⟨hd, .inr ⟨he, rfl, hk⟩⟩
    repeat (first | (refine wpKind_free (v := ?_) (by rfl) rfl (by rfl) ?_ ?_; rotate_left 1; (focus (intro wy; go_simp; try with_reducible rfl; done)); try simp only [Act.put, List.setIfInBounds_toArray, List.set_cons_zero, List.set_cons_succ]) | (refine wpKind_held (v := ?_) (by rfl) rfl (by rfl) hSw ?_ ?_; rotate_left 1; (focus (intro wy hSy; have s0 := hSy; go_simp; try with_reducible rfl; done)); try simp only [Act.put, List.setIfInBounds_toArray, List.set_cons_zero, List.set_cons_succ]))
    clear hSw
    refine wpKind_keeps (by rfl) rfl (fun n1 => ?_)
    go_wp2_with fail
    refine got_elim (HC.out (w1.drewN n1) (HO1.out.drewN n1) HX1.out) ?_ ?_
    · intro w9 he hk
      exact ⟨rfl, sN, he, rfl, rfl, HK1.out.below.trans (((Keep.refl b w1).drewN n1).trans hk).below⟩
    rintro j1 w5 rfl ho hk
    have HK5 := Lib.hid (((Keep.refl b w1).drewN n1).trans hk)
    have HO5 := Lib.hid ho
    have HS5 := Lib.hid (HS1.out.keep HK5.out)
    clear ho hk HC
    go_wp2_with fail
    show _ ∧ _
    refine ⟨(HO5.out.cellv 6 _ (fun v => by rw [← HNN.out, ← HEV.out]; rfl)).1, ?_⟩
    repeat (first | (refine wpKind_free (v := ?_) (by rfl) rfl (by rfl) ?_ ?_; rotate_left 1; (focus (intro wy; go_simp; try with_reducible rfl; done)); try simp only [Act.put, List.setIfInBounds_toArray, List.set_cons_zero, List.set_cons_succ]))
    refine wpKind_keeps (by rfl) rfl (fun n2 => ?_)
    go_wp2_with fail
    show _ ∧ _
    refine ⟨((HO5.out.drewN n2).new ((Below.refl _ _).alloc (Nat.le_refl _) (.cells #[.string (ba y.name), .string (ba y.route), .int .i64 y.start, .int .i64 y.every, .int .i64 y.stop] 52))).cellv 6 _ (fun v => by rw [← HNN.out, ← HEV.out]; rfl) |>.1, ?_⟩
    refine wpKind_serial (by rfl) rfl (fun n3 => ?_)
    have hlen := HLE.out
    have hn := HNN.out
    have ev := HEV.out
    subst hn
    go_wp2_with (at_builtin; refine wpList_append_sl _ rfl _ _ _ rfl B 52 iT _ 56 Tryz.underlying26 hiT hz1 hz2 hz3 rfl (by omega) trc_len trc_one _ _ x.trips [y] rfl rfl ((ev ▸ (((HS5.out.drewN n2).alloc (.cells #[.string (ba y.name), .string (ba y.route), .int .i64 y.start, .int .i64 y.every, .int .i64 y.stop] 52)).drewN n3).t)) (((Sl.new1 y rfl).drewN n3)) (by simp only [maxLen, List.length_cons, List.length_nil]; omega) (by simp only [List.length_cons, List.length_nil]; omega) ((((HS5.out.drewN n2).alloc (.cells #[.string (ba y.name), .string (ba y.route), .int .i64 y.start, .int .i64 y.every, .int .i64 y.stop] 52)).drewN n3).hB) ?_; intro v1 w6 hown1 hg1 hmv1; obtain ⟨A1, c1, rfl⟩ : ∃ A cap, v1 = .slice A (x.trips.length + 1) cap := (by obtain ⟨A, cap, e⟩ := ow_slice trc_len hown1; exact ⟨A, cap, by rw [e]; simp⟩))
    have HS6 := Lib.hid ((((HS5.out.drewN n2).alloc (.cells #[.string (ba y.name), .string (ba y.route), .int .i64 y.start, .int .i64 y.every, .int .i64 y.stop] 52)).drewN n3).put_t hown1 (ev.symm ▸ hg1) (ev.symm ▸ hmv1))
    have HFR := Lib.hid (show ∀ k, k < w.heap.size → k ≠ b → apartP x 0 k → w6.heap[k]? = w.heap[k]? ∧ apartP ({ x with vt := .slice A1 (x.trips.length + 1) c1, trips := x.trips ++ [y] } : SheetM) 0 k from fun k hk hkb hap => by
      have hk1 : k < w1.heap.size := Nat.lt_of_lt_of_le hk HK1.out.size
      have hk2 : k < w5.heap.size := Nat.lt_of_lt_of_le hk1 HK5.out.size
      have hk3 : k < (((w5.drewN n2).alloc (.cells #[.string (ba y.name), .string (ba y.route), .int .i64 y.start, .int .i64 y.every, .int .i64 y.stop] 52)).drewN n3).heap.size := by show k < ((w5.drewN n2).alloc (.cells #[.string (ba y.name), .string (ba y.route), .int .i64 y.start, .int .i64 y.every, .int .i64 y.stop] 52)).heap.size; rw [World.size_alloc]; show k < w5.heap.size + 1; omega
      refine ⟨(hg1.block k hk3 (by rw [← ev]; exact hap.2.2.2.2.2.1)).trans ((Below.heap_alloc _ _ _ (show k < (w5.drewN n2).heap.size from hk2)).trans ((HK5.out.block k hk1 hkb).trans (HK1.out.block k hk hkb))), Nat.zero_le _, hap.2.1, hap.2.2.1, hap.2.2.2.1, hap.2.2.2.2.1, moved_ne hmv1 hk3 (ev ▸ hap.2.2.2.2.2.1), hap.2.2.2.2.2.2⟩)
    have hnb : ∀ k, k ≤ b → some k ≠ Value.ownBlock (.slice A0 x.trips.length c0) := fun k hk e => by
      have h1 := (((((HS5.out.drewN n2).alloc (.cells #[.string (ba y.name), .string (ba y.route), .int .i64 y.start, .int .i64 y.every, .int .i64 y.stop] 52)).drewN n3).t).lt (k := k) (by rw [ev]; exact e.symm)).1
      have h2 := HS5.out.hb
      omega
    have hbl6 : ∀ k, k ≤ b → w6.heap[k]? = w5.heap[k]? := fun k hk => (hg1.block k (by have := HO5.out.lt; show k < ((w5.drewN n2).alloc (.cells #[.string (ba y.name), .string (ba y.route), .int .i64 y.start, .int .i64 y.every, .int .i64 y.stop] 52)).heap.size; rw [World.size_alloc]; show k < w5.heap.size + 1; omega) (hnb k hk)).trans (Below.heap_alloc _ _ _ (by have := HO5.out.lt; show k < w5.heap.size; omega))
    have HO6 := Lib.hid (HO5.out.frame (by have := hg1.size; rw [show ((((w5.drewN n2).alloc (.cells #[.string (ba y.name), .string (ba y.route), .int .i64 y.start, .int .i64 y.every, .int .i64 y.stop] 52)).drewN n3)).heap.size = w5.heap.size + 1 from World.size_alloc _ _] at this; omega) hbl6)
    have HBL6 := Lib.hid (show Below b w w6 from HK1.out.below.trans (HK5.out.below.trans ((below_drewN ((below_drewN (Below.refl b w5) n2).alloc (Nat.le_of_lt HO5.out.lt) (.cells #[.string (ba y.name), .string (ba y.route), .int .i64 y.start, .int .i64 y.every, .int .i64 y.stop] 52)) n3).grown hg1 (by have := HO5.out.lt; show b ≤ ((w5.drewN n2).alloc (.cells #[.string (ba y.name), .string (ba y.route), .int .i64 y.start, .int .i64 y.every, .int .i64 y.stop] 52)).heap.size; rw [World.size_alloc]; show b ≤ w5.heap.size + 1; omega) (fun k hk => Nat.le_of_lt (Nat.lt_of_not_le fun hkb => hnb k hkb hk.symm)))))
    obtain ⟨y1, y2⟩ := HO6.out.cellv 6 (.slice A0 x.trips.length c0) (fun v => by rw [← ev]; rfl)
    clear hown1 hg1 hmv1 hbl6 hnb
    repeat (first | (refine wpKind_free (v := ?_) (by rfl) rfl (by rfl) ?_ ?_; rotate_left 1; (focus (intro wy; go_simp; try with_reducible rfl; done)); try simp only [Act.put, List.setIfInBounds_toArray, List.set_cons_zero, List.set_cons_succ]))
    refine wpKind_serial (by rfl) rfl (fun n4 => ?_)
    go_wp2_with fail
    clear y1 y2
    show wpKind _ _ _ _ _ _ _ _ _
    refine wpKind_nilP fun n5 => ?_
    go_wp2_with fail
    go_end0
    exact .inl ⟨j1, { x with vt := .slice A1 (x.trips.length + 1) c1, trips := x.trips ++ [y] }, rfl, rfl, rfl, ((SOk.put (Y := ({ x with vt := .slice A1 (x.trips.length + 1) c1, trips := x.trips ++ [y] } : SheetM).xv) (HO6.out.drewN n4) 6 (.slice A1 (x.trips.length + 1) c1) (fun v => rfl)).drewN n5), ((HS6.out.reset 6 _).same rfl), below_drewN ((below_drewN HBL6.out n4).setCell (p := ⟨b, 6, none⟩) (Nat.le_refl _) _) n5, fun k hk hkb hap => ⟨(heap_setCell_other (w6.drewN n4) ⟨b, 6, none⟩ k _ hkb).trans (HFR.out k hk hkb hap).1, (HFR.out k hk hkb hap).2⟩⟩
set_option maxHeartbeats 4000000 in
set_option maxRecDepth 100000 in
theorem strip_m (B b : Nat) (L : List TokD) (i : Nat) (x : SheetM) (w : World) (h : SOk b L i x.xv w) (hs : ShAt B b x w) (hm : SmallS x) (hk : (nowD L (rd i)).kind = 2) :
    Calls Tryz.prog 94 #[.pointer (some ⟨b, 0, none⟩)] w (GotT B b L x w (midT L i x.d kTrip)) := by
  have HLT := Lib.hid h.lt
  have HC := Lib.hid (fun w2 h2 s2 p2 => sgrow_t B b L i x w.heap.size w2 h2 s2 hm p2 hk)
  have HO := Lib.hid h
  have HS := Lib.hid hs
  have hmf : ∀ (fn : Fn) (first cap : Array Value) (w : World), (Instr.makeFunc fn first cap).run Tryz.prog w = .ok (.func fn first cap) w := fun _ _ _ _ => rfl
  obtain ⟨R, hR⟩ : ∃ R, midT L i x.d kTrip = R := ⟨_, rfl⟩
  rw [hR] at HC ⊢
  clear h hs hm hk hR
  go_enter Tryz.func94, Tryz.ntmps94
  go_upto_region 1 with fail
  obtain ⟨p0, hp0⟩ : ∃ p0, w.heap.size = p0 := ⟨_, rfl⟩
  obtain ⟨w1, hw1⟩ : ∃ w1, w.alloc (.cells #[.pointer (some ⟨b, 0, none⟩)] 76) = w1 := ⟨_, rfl⟩
  have hb1 : Below w.heap.size w w1 := by rw [← hw1]; exact (Below.refl _ _).alloc (Nat.le_refl _) _
  have HX1 := Lib.hid (show CapAt p0 b w1 from ⟨by rw [← hw1, ← hp0]; exact heap_alloc_new _ _, by rw [← hp0]; exact HLT.out⟩)
  have HO1 := Lib.hid (HO.out.new hb1)
  have HS1 := Lib.hid (HS.out.keep (Keep.of hb1 (Nat.le_of_lt HLT.out)))
  have HB1 := Lib.hid (hb1.mono (Nat.le_of_lt HLT.out))
  have HKK := Lib.hid (Keep.of hb1 (Nat.le_of_lt HLT.out))
  try rw [hw1]
  try rw [hp0]
  rw [hp0] at HC
  clear hw1 hp0 hb1
  have hSw : w1.cell? ⟨p0, 0, none⟩ = some (.pointer (some ⟨b, 0, none⟩)) := HX1.out.cell
  refine wp_region_kindsP [] (fun c w9 => R.1.e ≠ 0 ∧ c = give R.1 ∧ Below b w w9) ?_ (fun wy => wy.cell? ⟨p0, 0, none⟩ = some (.pointer (some ⟨b, 0, none⟩))) [] [6] [0, 1] [2, 3, 4, 5] [0, 1, 2, 3, 4, 5, 6] (by kernel_rfl) (by kernel_rfl) (fun w n h => h) ?_
  · rintro c a w9 hd ⟨he, rfl, hb⟩
    exact ⟨hd, .inr ⟨he, rfl, hb⟩⟩
  repeat (first | (refine wpKind_free (v := ?_) (by rfl) rfl (by rfl) ?_ ?_; rotate_left 1; (focus (intro wy; go_simp; try with_reducible rfl; done)); try simp only [Act.put, List.setIfInBounds_toArray, List.set_cons_zero, List.set_cons_succ]) | (refine wpKind_held (v := ?_) (by rfl) rfl (by rfl) hSw ?_ ?_; rotate_left 1; (focus (intro wy hSy; have s0 : wy.cell? ⟨p0, 0, none⟩ = some (.pointer (some ⟨b, 0, none⟩)) := hSy; go_simp; try with_reducible rfl; done)); try simp only [Act.put, List.setIfInBounds_toArray, List.set_cons_zero, List.set_cons_succ]))
  clear hSw
  refine wpKind_serial (by rfl) rfl (fun n1 => ?_)
  go_wp2_with fail
  refine (HC.out (w1.drewN n1) (HO1.out.drewN n1) (HS1.out.drewN n1) HX1.out).mono ?_
  rintro e w2 (⟨j, x1, hr, hd, rfl, ho, hs, hb, ha⟩ | ⟨he, rfl, hb⟩)
  · have HH := Lib.hid (show ∀ n, GotT B b L x w R (.returned (.tuple #[])) (w2.drewN n) from fun n => .inl ⟨j, x1, hr, hd, rfl, ho.drewN n, hs.drewN n, below_drewN ((below_drewN HB1.out n1).trans hb) n, Apart.pre (fun k h1 h2 h3 => ha k h1 h2 h3) (HKK.out.drewN n1)⟩)
    clear hr hd ho hs hb ha HC
    go_wp2_with fail
    show wpKind _ _ _ _ _ _ _ _ _
    refine wpKind_nilP fun n2 => ?_
    go_wp2_with fail
    go_end0
    exact HH.out n2
  · exact ⟨rfl, he, rfl, (below_drewN HB1.out n1).trans hb⟩
set_option maxHeartbeats 8000000 in
set_option maxRecDepth 100000 in
theorem sgrow_h (B b : Nat) (L : List TokD) (i : Nat) (x : SheetM) (p0 : Nat) (w : World) (h : SOk b L i x.xv w) (hs : ShAt B b x w) (hm : SmallS x) (hp : CapAt p0 b w) (hk : (nowD L (rd i)).kind = 2) :
    Calls Tryz.prog 116 #[.pointer (some ⟨b, 0, none⟩), .pointer (some ⟨b, 7, none⟩), .int .i64 256, .func (.func 117) #[] #[.pointer (some ⟨p0, 0, none⟩)]] w (GotT B b L x w (midT L i x.d kHazard)) := by
  obtain ⟨iT, hiT, hz1, hz2, hz3⟩ := info_parts info_hazQ
  have HLT := Lib.hid h.lt
  have hlen := hm.h
  have HO := Lib.hid h
  have HS := Lib.hid hs
  have HX := Lib.hid hp
  obtain ⟨A0, c0, ev⟩ := ow_slice hc_len hs.h
  have HF := Lib.hid (sfail_any b L i x.xv 3)
  have HE3 := Lib.hid (fail_rd L i 3 (by decide))
  have HTK := Lib.hid (stake_ok b L i x.xv 2 w h hk (kind_lt hk (by decide)))
  have hful : fullD x.d kHazard = decide (256 ≤ x.hazs.length) := by unfold fullD; rw [if_neg (by decide)]; rw [if_neg (by decide)]; rw [if_neg (by decide)]; rw [if_neg (by decide)]; rw [if_neg (by decide)]; rw [if_pos rfl]; rfl
  have x0 : w.cell? ⟨b, 7, none⟩ = some (.slice A0 x.hazs.length c0) := (h.cellv 7 _ (fun v => by rw [← ev]; rfl)).1
  unfold midT
  rw [hful]
  obtain ⟨n, hn⟩ : ∃ n, x.hazs.length = n := ⟨_, rfl⟩
  by_cases hge : 256 ≤ n
  · rw [hn, decide_eq_true hge, if_pos rfl]
    rw [hn] at x0
    have c1 : decide ((256 : Int) ≤ (n : Int)) = true := decide_eq_true (by omega)
    clear h hs hm hp hful ev hge hlen HTK
    go_enter Tryz.func116, Tryz.ntmps116
    go_wp2_with fail
    refine (HF.out w HO.out).mono ?_
    rintro e w4 ⟨rfl, hb⟩
    have HB4 := Lib.hid (hb.mono (Nat.le_of_lt HLT.out))
    clear hb
    try go_wp2_with fail
    exact ⟨rfl, .inr ⟨HE3.out, rfl, HB4.out⟩⟩
  · have c1 : decide ((256 : Int) ≤ (n : Int)) = false := decide_eq_false (by omega)
    rw [hn, decide_eq_false hge, if_neg (by decide)]
    rw [hn] at x0
    obtain ⟨⟨sN, y⟩, hy⟩ : ∃ r, hazRD L (rd (i + 1)) = r := ⟨_, rfl⟩
    have HTD := Lib.hid (show thingD L (rd (i + 1)) x.d kHazard = (sN, { x.d with hazs := x.d.hazs ++ [y] }) by unfold thingD; rw [if_neg (by decide)]; rw [if_neg (by decide)]; rw [if_neg (by decide)]; rw [if_neg (by decide)]; rw [if_neg (by decide)]; rw [hy])
    rw [HTD.out]
    have hq9 := fun w9 h9 p9 => shaz_any b L (i + 1) x.xv p0 w9 h9 p9
    simp only [hy] at hq9
    dsimp only [hc] at hq9
    have HC := Lib.hid hq9
    have HEV := Lib.hid ev
    have HLE := Lib.hid hlen
    have HNN := Lib.hid hn
    clear hq9 h hs hm hp hful hge hy hlen HF HE3 HTD
    dsimp only [tkc] at HTK
    go_enter Tryz.func116, Tryz.ntmps116
    go_wp2_with fail
    refine HTK.out.mono ?_
    rintro e w1 ⟨rfl, ho, hk1⟩
    have HO1 := Lib.hid ho
    have HK1 := Lib.hid hk1
    have HS1 := Lib.hid (HS.out.keep hk1)
    have HX1 := Lib.hid (HX.out.keep hk1)
    clear ho hk1 x0 HTK
    go_upto_region 3 with fail
    have hSw : w1.cell? ⟨b, 7, none⟩ = some (.slice A0 n c0) := (HO1.out.cellv 7 _ (fun v => by rw [← HNN.out, ← HEV.out]; rfl)).1
    refine wp_region_kindsP [] (fun c w9 => ∃ r : Rd, r.e ≠ 0 ∧ sN = r ∧ c = give r ∧ Below b w w9) ?_ (fun wy => wy.cell? ⟨b, 7, none⟩ = some (.slice A0 n c0)) [5, 6] [7, 9] [3] [0, 1, 2, 4, 8] [0, 1, 2, 3, 4, 5, 6, 7, 8, 9] (by kernel_rfl) (by kernel_rfl) (fun w n h => h) ?_
    · rintro c a w9 hd ⟨r, he, rfl, rfl, hk⟩
      exact ⟨hd, .inr ⟨he, rfl, hk⟩⟩
    repeat (first | (refine wpKind_free (v := ?_) (by rfl) rfl (by rfl) ?_ ?_; rotate_left 1; (focus (intro wy; go_simp; try with_reducible rfl; done)); try simp only [Act.put, List.setIfInBounds_toArray, List.set_cons_zero, List.set_cons_succ]) | (refine wpKind_held (v := ?_) (by rfl) rfl (by rfl) hSw ?_ ?_; rotate_left 1; (focus (intro wy hSy; have s0 := hSy; go_simp; try with_reducible rfl; done)); try simp only [Act.put, List.setIfInBounds_toArray, List.set_cons_zero, List.set_cons_succ]))
    clear hSw
    refine wpKind_keeps (by rfl) rfl (fun n1 => ?_)
    go_wp2_with fail
    refine got_elim (HC.out (w1.drewN n1) (HO1.out.drewN n1) HX1.out) ?_ ?_
    · intro w9 he hk
      exact ⟨rfl, sN, he, rfl, rfl, HK1.out.below.trans (((Keep.refl b w1).drewN n1).trans hk).below⟩
    rintro j1 w5 rfl ho hk
    have HK5 := Lib.hid (((Keep.refl b w1).drewN n1).trans hk)
    have HO5 := Lib.hid ho
    have HS5 := Lib.hid (HS1.out.keep HK5.out)
    clear ho hk HC
    go_wp2_with fail
    show _ ∧ _
    refine ⟨(HO5.out.cellv 7 _ (fun v => by rw [← HNN.out, ← HEV.out]; rfl)).1, ?_⟩
    repeat (first | (refine wpKind_free (v := ?_) (by rfl) rfl (by rfl) ?_ ?_; rotate_left 1; (focus (intro wy; go_simp; try with_reducible rfl; done)); try simp only [Act.put, List.setIfInBounds_toArray, List.set_cons_zero, List.set_cons_succ]))
    refine wpKind_keeps (by rfl) rfl (fun n2 => ?_)
    go_wp2_with fail
    show _ ∧ _
    refine ⟨((HO5.out.drewN n2).new ((Below.refl _ _).alloc (Nat.le_refl _) (.cells #[.string (ba y.name), .string (ba y.on), .int .i64 y.times.start, .int .i64 y.times.every, .int .i64 y.times.len] 54))).cellv 7 _ (fun v => by rw [← HNN.out, ← HEV.out]; rfl) |>.1, ?_⟩
    refine wpKind_serial (by rfl) rfl (fun n3 => ?_)
    have hlen := HLE.out
    have hn := HNN.out
    have ev := HEV.out
    subst hn
    go_wp2_with (at_builtin; refine wpList_append_sl _ rfl _ _ _ rfl B 54 iT _ 56 Tryz.underlying27 hiT hz1 hz2 hz3 rfl (by omega) hc_len hc_one _ _ x.hazs [y] rfl rfl ((ev ▸ (((HS5.out.drewN n2).alloc (.cells #[.string (ba y.name), .string (ba y.on), .int .i64 y.times.start, .int .i64 y.times.every, .int .i64 y.times.len] 54)).drewN n3).h)) (((Sl.new1 y rfl).drewN n3)) (by simp only [maxLen, List.length_cons, List.length_nil]; omega) (by simp only [List.length_cons, List.length_nil]; omega) ((((HS5.out.drewN n2).alloc (.cells #[.string (ba y.name), .string (ba y.on), .int .i64 y.times.start, .int .i64 y.times.every, .int .i64 y.times.len] 54)).drewN n3).hB) ?_; intro v1 w6 hown1 hg1 hmv1; obtain ⟨A1, c1, rfl⟩ : ∃ A cap, v1 = .slice A (x.hazs.length + 1) cap := (by obtain ⟨A, cap, e⟩ := ow_slice hc_len hown1; exact ⟨A, cap, by rw [e]; simp⟩))
    have HS6 := Lib.hid ((((HS5.out.drewN n2).alloc (.cells #[.string (ba y.name), .string (ba y.on), .int .i64 y.times.start, .int .i64 y.times.every, .int .i64 y.times.len] 54)).drewN n3).put_h hown1 (ev.symm ▸ hg1) (ev.symm ▸ hmv1))
    have HFR := Lib.hid (show ∀ k, k < w.heap.size → k ≠ b → apartP x 0 k → w6.heap[k]? = w.heap[k]? ∧ apartP ({ x with vh := .slice A1 (x.hazs.length + 1) c1, hazs := x.hazs ++ [y] } : SheetM) 0 k from fun k hk hkb hap => by
      have hk1 : k < w1.heap.size := Nat.lt_of_lt_of_le hk HK1.out.size
      have hk2 : k < w5.heap.size := Nat.lt_of_lt_of_le hk1 HK5.out.size
      have hk3 : k < (((w5.drewN n2).alloc (.cells #[.string (ba y.name), .string (ba y.on), .int .i64 y.times.start, .int .i64 y.times.every, .int .i64 y.times.len] 54)).drewN n3).heap.size := by show k < ((w5.drewN n2).alloc (.cells #[.string (ba y.name), .string (ba y.on), .int .i64 y.times.start, .int .i64 y.times.every, .int .i64 y.times.len] 54)).heap.size; rw [World.size_alloc]; show k < w5.heap.size + 1; omega
      refine ⟨(hg1.block k hk3 (by rw [← ev]; exact hap.2.2.2.2.2.2)).trans ((Below.heap_alloc _ _ _ (show k < (w5.drewN n2).heap.size from hk2)).trans ((HK5.out.block k hk1 hkb).trans (HK1.out.block k hk hkb))), Nat.zero_le _, hap.2.1, hap.2.2.1, hap.2.2.2.1, hap.2.2.2.2.1, hap.2.2.2.2.2.1, moved_ne hmv1 hk3 (ev ▸ hap.2.2.2.2.2.2)⟩)
    have hnb : ∀ k, k ≤ b → some k ≠ Value.ownBlock (.slice A0 x.hazs.length c0) := fun k hk e => by
      have h1 := (((((HS5.out.drewN n2).alloc (.cells #[.string (ba y.name), .string (ba y.on), .int .i64 y.times.start, .int .i64 y.times.every, .int .i64 y.times.len] 54)).drewN n3).h).lt (k := k) (by rw [ev]; exact e.symm)).1
      have h2 := HS5.out.hb
      omega
    have hbl6 : ∀ k, k ≤ b → w6.heap[k]? = w5.heap[k]? := fun k hk => (hg1.block k (by have := HO5.out.lt; show k < ((w5.drewN n2).alloc (.cells #[.string (ba y.name), .string (ba y.on), .int .i64 y.times.start, .int .i64 y.times.every, .int .i64 y.times.len] 54)).heap.size; rw [World.size_alloc]; show k < w5.heap.size + 1; omega) (hnb k hk)).trans (Below.heap_alloc _ _ _ (by have := HO5.out.lt; show k < w5.heap.size; omega))
    have HO6 := Lib.hid (HO5.out.frame (by have := hg1.size; rw [show ((((w5.drewN n2).alloc (.cells #[.string (ba y.name), .string (ba y.on), .int .i64 y.times.start, .int .i64 y.times.every, .int .i64 y.times.len] 54)).drewN n3)).heap.size = w5.heap.size + 1 from World.size_alloc _ _] at this; omega) hbl6)
    have HBL6 := Lib.hid (show Below b w w6 from HK1.out.below.trans (HK5.out.below.trans ((below_drewN ((below_drewN (Below.refl b w5) n2).alloc (Nat.le_of_lt HO5.out.lt) (.cells #[.string (ba y.name), .string (ba y.on), .int .i64 y.times.start, .int .i64 y.times.every, .int .i64 y.times.len] 54)) n3).grown hg1 (by have := HO5.out.lt; show b ≤ ((w5.drewN n2).alloc (.cells #[.string (ba y.name), .string (ba y.on), .int .i64 y.times.start, .int .i64 y.times.every, .int .i64 y.times.len] 54)).heap.size; rw [World.size_alloc]; show b ≤ w5.heap.size + 1; omega) (fun k hk => Nat.le_of_lt (Nat.lt_of_not_le fun hkb => hnb k hkb hk.symm)))))
    obtain ⟨y1, y2⟩ := HO6.out.cellv 7 (.slice A0 x.hazs.length c0) (fun v => by rw [← ev]; rfl)
    clear hown1 hg1 hmv1 hbl6 hnb
    repeat (first | (refine wpKind_free (v := ?_) (by rfl) rfl (by rfl) ?_ ?_; rotate_left 1; (focus (intro wy; go_simp; try with_reducible rfl; done)); try simp only [Act.put, List.setIfInBounds_toArray, List.set_cons_zero, List.set_cons_succ]))
    refine wpKind_serial (by rfl) rfl (fun n4 => ?_)
    go_wp2_with fail
    clear y1 y2
    show wpKind _ _ _ _ _ _ _ _ _
    refine wpKind_nilP fun n5 => ?_
    go_wp2_with fail
    go_end0
    exact .inl ⟨j1, { x with vh := .slice A1 (x.hazs.length + 1) c1, hazs := x.hazs ++ [y] }, rfl, rfl, rfl, ((SOk.put (Y := ({ x with vh := .slice A1 (x.hazs.length + 1) c1, hazs := x.hazs ++ [y] } : SheetM).xv) (HO6.out.drewN n4) 7 (.slice A1 (x.hazs.length + 1) c1) (fun v => rfl)).drewN n5), ((HS6.out.reset 7 _).same rfl), below_drewN ((below_drewN HBL6.out n4).setCell (p := ⟨b, 7, none⟩) (Nat.le_refl _) _) n5, fun k hk hkb hap => ⟨(heap_setCell_other (w6.drewN n4) ⟨b, 7, none⟩ k _ hkb).trans (HFR.out k hk hkb hap).1, (HFR.out k hk hkb hap).2⟩⟩
set_option maxHeartbeats 4000000 in
set_option maxRecDepth 100000 in
theorem shazard_m (B b : Nat) (L : List TokD) (i : Nat) (x : SheetM) (w : World) (h : SOk b L i x.xv w) (hs : ShAt B b x w) (hm : SmallS x) (hk : (nowD L (rd i)).kind = 2) :
    Calls Tryz.prog 95 #[.pointer (some ⟨b, 0, none⟩)] w (GotT B b L x w (midT L i x.d kHazard)) := by
  have HLT := Lib.hid h.lt
  have HC := Lib.hid (fun w2 h2 s2 p2 => sgrow_h B b L i x w.heap.size w2 h2 s2 hm p2 hk)
  have HO := Lib.hid h
  have HS := Lib.hid hs
  have hmf : ∀ (fn : Fn) (first cap : Array Value) (w : World), (Instr.makeFunc fn first cap).run Tryz.prog w = .ok (.func fn first cap) w := fun _ _ _ _ => rfl
  obtain ⟨R, hR⟩ : ∃ R, midT L i x.d kHazard = R := ⟨_, rfl⟩
  rw [hR] at HC ⊢
  clear h hs hm hk hR
  go_enter Tryz.func95, Tryz.ntmps95
  go_upto_region 1 with fail
  obtain ⟨p0, hp0⟩ : ∃ p0, w.heap.size = p0 := ⟨_, rfl⟩
  obtain ⟨w1, hw1⟩ : ∃ w1, w.alloc (.cells #[.pointer (some ⟨b, 0, none⟩)] 76) = w1 := ⟨_, rfl⟩
  have hb1 : Below w.heap.size w w1 := by rw [← hw1]; exact (Below.refl _ _).alloc (Nat.le_refl _) _
  have HX1 := Lib.hid (show CapAt p0 b w1 from ⟨by rw [← hw1, ← hp0]; exact heap_alloc_new _ _, by rw [← hp0]; exact HLT.out⟩)
  have HO1 := Lib.hid (HO.out.new hb1)
  have HS1 := Lib.hid (HS.out.keep (Keep.of hb1 (Nat.le_of_lt HLT.out)))
  have HB1 := Lib.hid (hb1.mono (Nat.le_of_lt HLT.out))
  have HKK := Lib.hid (Keep.of hb1 (Nat.le_of_lt HLT.out))
  try rw [hw1]
  try rw [hp0]
  rw [hp0] at HC
  clear hw1 hp0 hb1
  have hSw : w1.cell? ⟨p0, 0, none⟩ = some (.pointer (some ⟨b, 0, none⟩)) := HX1.out.cell
  refine wp_region_kindsP [] (fun c w9 => R.1.e ≠ 0 ∧ c = give R.1 ∧ Below b w w9) ?_ (fun wy => wy.cell? ⟨p0, 0, none⟩ = some (.pointer (some ⟨b, 0, none⟩))) [] [6] [0, 1] [2, 3, 4, 5] [0, 1, 2, 3, 4, 5, 6] (by kernel_rfl) (by kernel_rfl) (fun w n h => h) ?_
  · rintro c a w9 hd ⟨he, rfl, hb⟩
    exact ⟨hd, .inr ⟨he, rfl, hb⟩⟩
  repeat (first | (refine wpKind_free (v := ?_) (by rfl) rfl (by rfl) ?_ ?_; rotate_left 1; (focus (intro wy; go_simp; try with_reducible rfl; done)); try simp only [Act.put, List.setIfInBounds_toArray, List.set_cons_zero, List.set_cons_succ]) | (refine wpKind_held (v := ?_) (by rfl) rfl (by rfl) hSw ?_ ?_; rotate_left 1; (focus (intro wy hSy; have s0 : wy.cell? ⟨p0, 0, none⟩ = some (.pointer (some ⟨b, 0, none⟩)) := hSy; go_simp; try with_reducible rfl; done)); try simp only [Act.put, List.setIfInBounds_toArray, List.set_cons_zero, List.set_cons_succ]))
  clear hSw
  refine wpKind_serial (by rfl) rfl (fun n1 => ?_)
  go_wp2_with fail
  refine (HC.out (w1.drewN n1) (HO1.out.drewN n1) (HS1.out.drewN n1) HX1.out).mono ?_
  rintro e w2 (⟨j, x1, hr, hd, rfl, ho, hs, hb, ha⟩ | ⟨he, rfl, hb⟩)
  · have HH := Lib.hid (show ∀ n, GotT B b L x w R (.returned (.tuple #[])) (w2.drewN n) from fun n => .inl ⟨j, x1, hr, hd, rfl, ho.drewN n, hs.drewN n, below_drewN ((below_drewN HB1.out n1).trans hb) n, Apart.pre (fun k h1 h2 h3 => ha k h1 h2 h3) (HKK.out.drewN n1)⟩)
    clear hr hd ho hs hb ha HC
    go_wp2_with fail
    show wpKind _ _ _ _ _ _ _ _ _
    refine wpKind_nilP fun n2 => ?_
    go_wp2_with fail
    go_end0
    exact HH.out n2
  · exact ⟨rfl, he, rfl, (below_drewN HB1.out n1).trans hb⟩
end Go.Proofs.YteonefgbdphmiaaGreatDoor
