/- Package sheet: the walk of the closure that reads a route, of grow at a route, and of the reader's route. Printed by wip/bin/genwd.py. -/
import Derived.Test.YteonefgbdphmiaaGreatDoorWc
import Derived.Test.YteonefgbdphmiaaGreatDoorPb
namespace Go.Proofs.YteonefgbdphmiaaGreatDoor
open Go.RowKit
/-- A route that is being read: its rows, its block. -/
structure Ru (B q b : Nat) (nm : List UInt8) (vs vr vy : Value) (ss : Nms) (rs ys : List Int) (w : World) : Prop where
  s : Ow nc 1 w B 9 vs ss
  r : Ow ic 1 w B 2 vr rs
  y : Ow ic 1 w B 2 vy ys
  ry : ∀ k, vr.ownBlock = some k → vy.ownBlock ≠ some k
  x : w.heap[q]? = some (.cells #[.string (ba nm), vs, vr, vy] 57 (0, 0))
  hb : b < B
  hq : B ≤ q
section
variable {B q b : Nat} {nm : List UInt8} {vs vr vy v' : Value} {ss ss' : Nms} {rs ys xs' : List Int} {w w' : World}
theorem Ru.lq (h : Ru B q b nm vs vr vy ss rs ys w) : q < w.heap.size := (Array.getElem?_eq_some_iff.1 h.x).1
theorem Ru.lB (h : Ru B q b nm vs vr vy ss rs ys w) : B ≤ w.heap.size := Nat.le_trans h.hq (Nat.le_of_lt h.lq)
theorem Ru.keep (h : Ru B q b nm vs vr vy ss rs ys w) (k : Keep b w w') : Ru B q b nm vs vr vy ss rs ys w' := by
  have hk : ∀ i, B ≤ i → i < w.heap.size → w'.heap[i]? = w.heap[i]? := fun i h1 h2 => k.block i h2 (by have := h.hb; omega)
  exact ⟨h.s.keepB hk, h.r.keepB hk, h.y.keepB hk, h.ry, (hk q h.hq h.lq).trans h.x, h.hb, h.hq⟩
theorem Ru.same (h : Ru B q b nm vs vr vy ss rs ys w) (e : w'.heap = w.heap) : Ru B q b nm vs vr vy ss rs ys w' :=
  ⟨h.s.keepB fun i _ _ => by rw [e], h.r.keepB fun i _ _ => by rw [e], h.y.keepB fun i _ _ => by rw [e], h.ry, by rw [e]; exact h.x, h.hb, h.hq⟩
theorem Ru.drewN (h : Ru B q b nm vs vr vy ss rs ys w) (n : Nat) : Ru B q b nm vs vr vy ss rs ys (w.drewN n) := ⟨h.s.drewN n, h.r.drewN n, h.y.drewN n, h.ry, h.x, h.hb, h.hq⟩
theorem Ru.alloc (h : Ru B q b nm vs vr vy ss rs ys w) (o : Obj) : Ru B q b nm vs vr vy ss rs ys (w.alloc o) := h.keep (Keep.of ((Below.refl _ _).alloc (Nat.le_refl _) o) (by have := h.hb; have := h.lB; omega))
theorem Ru.putS (h : Ru B q b nm vs vr vy ss rs ys w) (hown : Ow nc 1 w' B 9 v' ss') (hg : w.grownBy w' vs.ownBlock) : Ru B q b nm v' vr vy ss' rs ys (w'.setCell ⟨q, 1, none⟩ v') := by
  have hxq := (hg.block q h.lq (Ne.symm (ow_ne h.s h.x (by decide)))).trans h.x
  have hr := h.r.kept hg (ow_apart h.r h.s (by decide))
  have hy := h.y.kept hg (ow_apart h.y h.s (by decide))
  exact ⟨hown.set (ow_ne hown hxq (by decide)), hr.set (ow_ne hr hxq (by decide)), hy.set (ow_ne hy hxq (by decide)), h.ry, heap_setCell_same w' q 1 _ _ v' hxq, h.hb, h.hq⟩
theorem Ru.putR (h : Ru B q b nm vs vr vy ss rs ys w) (hown : Ow ic 1 w' B 2 v' xs') (hg : w.grownBy w' vr.ownBlock) (hm : Moved w vr v') : Ru B q b nm vs v' vy ss xs' ys (w'.setCell ⟨q, 2, none⟩ v') := by
  have hxq := (hg.block q h.lq (Ne.symm (ow_ne h.r h.x (by decide)))).trans h.x
  have hs := h.s.kept hg (ow_apart h.s h.r (by decide))
  have hyr : vy.ownBlock = none ∨ vy.ownBlock ≠ vr.ownBlock := by
    rcases hv : vy.ownBlock with _ | k
    · exact .inl rfl
    · exact .inr fun e => h.ry k e.symm hv
  have hy := h.y.kept hg hyr
  refine ⟨hs.set (ow_ne hs hxq (by decide)), hown.set (ow_ne hown hxq (by decide)), hy.set (ow_ne hy hxq (by decide)), fun k hk hk2 => ?_, heap_setCell_same w' q 2 _ _ v' hxq, h.hb, h.hq⟩
  rcases hm with hm | ⟨g, hm, hge⟩
  · exact h.ry k (hm ▸ hk) hk2
  · rw [hm] at hk; injection hk with hk; have := (h.y.lt hk2).2; omega
theorem Ru.putY (h : Ru B q b nm vs vr vy ss rs ys w) (hown : Ow ic 1 w' B 2 v' xs') (hg : w.grownBy w' vy.ownBlock) (hm : Moved w vy v') : Ru B q b nm vs vr v' ss rs xs' (w'.setCell ⟨q, 3, none⟩ v') := by
  have hxq := (hg.block q h.lq (Ne.symm (ow_ne h.y h.x (by decide)))).trans h.x
  have hs := h.s.kept hg (ow_apart h.s h.y (by decide))
  have hry : vr.ownBlock = none ∨ vr.ownBlock ≠ vy.ownBlock := by
    rcases hv : vr.ownBlock with _ | k
    · exact .inl rfl
    · exact .inr fun e => h.ry k hv e.symm
  have hr := h.r.kept hg hry
  refine ⟨hs.set (ow_ne hs hxq (by decide)), hr.set (ow_ne hr hxq (by decide)), hown.set (ow_ne hown hxq (by decide)), fun k hk hk2 => ?_, heap_setCell_same w' q 3 _ _ v' hxq, h.hb, h.hq⟩
  rcases hm with hm | ⟨g, hm, hge⟩
  · exact h.ry k hk (hm ▸ hk2)
  · rw [hm] at hk2; injection hk2 with hk2; have := (h.r.lt hk).2; omega
theorem Ru.good (h : Ru B q b nm vs vr vy ss rs ys w) (cs : Array Value) : (⟨nm, vs, vr, vy, ss, rs, ys⟩ : RouteM).Good (w.setRow q cs) (fun k => B ≤ k) := by
  have hs : ∀ k, k ≠ q → (w.setRow q cs).heap[k]? = w.heap[k]? := fun k hk => setRow_other w q k cs hk
  have hz : w.heap.size ≤ (w.setRow q cs).heap.size := by simp [World.setRow]
  refine ⟨?_, ?_, ?_⟩
  · exact ((h.s.sl nc_len).keep hz fun k _ hk => hs k (fun e => ow_ne h.s h.x (by decide) (e ▸ hk.1))).mono fun k hk => hk.2
  · exact ((h.r.sl ic_len).keep hz fun k _ hk => hs k (fun e => ow_ne h.r h.x (by decide) (e ▸ hk.1))).mono fun k hk => hk.2
  · exact ((h.y.sl ic_len).keep hz fun k _ hk => hs k (fun e => ow_ne h.y h.x (by decide) (e ▸ hk.1))).mono fun k hk => hk.2
theorem Ru.kp (h : Ru B q b nm vs vr vy ss rs ys w) {W : World} (hW : Keep b W w) (hWB : W.heap.size ≤ B) {row : Option Nat} (hg : w.grownBy w' row) (hr : ∀ k, row = some k → B ≤ k) : Keep b W w' :=
  ⟨hW.below.grown hg (by have := h.lB; have := h.hb; omega) (fun k hk => by have := hr k hk; have := h.hb; omega), fun k hk hkb => (hg.block k (Nat.lt_of_lt_of_le hk hW.size) (fun e => by have := hr k e.symm; omega)).trans (hW.block k hk hkb)⟩
end
/-- The reader, its variable, the route that is read: all as they should be. -/
structure RG (b : Nat) (L : List TokD) (X : XV) (p0 : Nat) (w0 : World) (B q : Nat) (nm : List UInt8) (vs vr vy : Value) (ss : Nms) (rs ys : List Int) (j : Nat) (w : World) : Prop where
  o : SOk b L j X w
  x : CapAt p0 b w
  t : Ru B q b nm vs vr vy ss rs ys w
  k : Keep b w0 w
  hp : p0 < B
  hw : w0.heap.size ≤ B
  h0 : b ≤ w0.heap.size
section
variable {b : Nat} {L : List TokD} {X : XV} {p0 : Nat} {w0 : World} {B q : Nat} {nm : List UInt8} {vs vr vy v' : Value} {ss ss' : Nms} {rs ys xs' : List Int} {j j2 : Nat} {w w' : World}
theorem RG.next (h : RG b L X p0 w0 B q nm vs vr vy ss rs ys j w) (ho : SOk b L j2 X w') (hk : Keep b w w') : RG b L X p0 w0 B q nm vs vr vy ss rs ys j2 w' := ⟨ho, h.x.keep hk, h.t.keep hk, h.k.trans hk, h.hp, h.hw, h.h0⟩
theorem RG.new (h : RG b L X p0 w0 B q nm vs vr vy ss rs ys j w) (hb : Below w.heap.size w w') : RG b L X p0 w0 B q nm vs vr vy ss rs ys j w' := h.next (h.o.new hb) (Keep.of hb (Nat.le_of_lt h.o.lt))
theorem RG.drewN (h : RG b L X p0 w0 B q nm vs vr vy ss rs ys j w) (n : Nat) : RG b L X p0 w0 B q nm vs vr vy ss rs ys j (w.drewN n) := h.new (below_drewN (Below.refl _ _) n)
theorem RG.alloc (h : RG b L X p0 w0 B q nm vs vr vy ss rs ys j w) (o : Obj) : RG b L X p0 w0 B q nm vs vr vy ss rs ys j (w.alloc o) := h.new ((Below.refl _ _).alloc (Nat.le_refl _) o)
theorem RG.grown (h : RG b L X p0 w0 B q nm vs vr vy ss rs ys j w) {row : Option Nat} (hg : w.grownBy w' row) (hr : ∀ k, row = some k → B ≤ k) : SOk b L j X w' ∧ CapAt p0 b w' ∧ Keep b w0 w' := by
  have hbl : ∀ k, k < B → w'.heap[k]? = w.heap[k]? := fun k hk => hg.block k (Nat.lt_of_lt_of_le hk h.t.lB) (fun e => by have := hr k e.symm; omega)
  refine ⟨h.o.frame hg.size fun k hk => hbl k (by have := h.t.hb; omega), ⟨(hbl p0 h.hp).trans h.x.1, h.x.2⟩, ?_⟩
  exact h.t.kp h.k h.hw hg hr
theorem RG.row (h : RG b L X p0 w0 B q nm vs vr vy ss rs ys j w) {i : Nat} (u : Value) {vs2 vr2 vy2 : Value} {ss2 : Nms} {rs2 ys2 : List Int} {row : Option Nat} (hg : w.grownBy w' row) (hr : ∀ k, row = some k → B ≤ k) (ht : Ru B q b nm vs2 vr2 vy2 ss2 rs2 ys2 (w'.setCell ⟨q, i, none⟩ u)) : RG b L X p0 w0 B q nm vs2 vr2 vy2 ss2 rs2 ys2 j (w'.setCell ⟨q, i, none⟩ u) := by
  obtain ⟨h1, h2, h3⟩ := h.grown hg hr
  exact ⟨h1.set (by have := h.t.hb; have := h.t.hq; omega) i u, h2.set (by have := h.hp; have := h.t.hq; omega) i u, ht, h3.newSet (by have := h.hw; have := h.t.hq; omega) h.h0 i u, h.hp, h.hw, h.h0⟩
end

/-- A route has been read, or the reader has given up. -/
def GotR (b : Nat) (L : List TokD) (X : XV) (w : World) (r : Rd) (d : RouteD) (e : Ending) (w' : World) : Prop :=
  (∃ j, ∃ m : RouteM, r = rd j ∧ m.d = d ∧ e = .returned (.agg (rc m).toArray) ∧ m.Good w' (fun k => w.heap.size ≤ k) ∧ SOk b L j X w' ∧ Keep b w w') ∨ (r.e ≠ 0 ∧ e = .panicked (give r) ∧ Keep b w w')
theorem gotr_elim {b : Nat} {L : List TokD} {X : XV} {w0 w : World} {r : Rd} {d : RouteD} {f : FuncId} {args : Array Value} {R : Ending → World → Prop} (h : Calls Tryz.prog f args w (GotR b L X w0 r d))
    (h1 : ∀ w', r.e ≠ 0 → Keep b w0 w' → R (.panicked (give r)) w') (h2 : ∀ (j : Nat) (m : RouteM) (w' : World), r = rd j → m.d = d → m.Good w' (fun k => w0.heap.size ≤ k) → SOk b L j X w' → Keep b w0 w' → R (.returned (.agg (rc m).toArray)) w') : Calls Tryz.prog f args w R := by
  refine h.mono ?_
  rintro e w' (⟨j, m, hj, hd, rfl, hg, ho, hk⟩ | ⟨he, rfl, hk⟩)
  · exact h2 j m w' hj hd hg ho hk
  · exact h1 w' he hk
theorem run_fail {L : List TokD} {n : Nat} {s : Rd} {ss : Nms} {rs ys : List Int} (h : s.e = 0) (hm : (nameD L (midR L (numD L s).1 ss.length)).1.e ≠ 0) : (routeRun L (n + 1) s ss rs ys).1 = (nameD L (midR L (numD L s).1 ss.length)).1 := by rw [routeRun_ret h (.inl hm)]
theorem mid_no {L : List TokD} {j n : Nat} (h : ¬ (n = 32 ∧ (nowD L (rd j)).kind = 1)) : midR L (rd j) n = rd j := by unfold midR; rw [if_neg (fun hh => h ⟨hh.1, hh.2.2⟩)]
theorem mid_yes {L : List TokD} {j n : Nat} (h : n = 32 ∧ (nowD L (rd j)).kind = 1) : midR L (rd j) n = failD (rd j) 3 (nowD L (rd j)) := by unfold midR; rw [if_pos ⟨h.1, rfl, h.2⟩]
set_option maxRecDepth 100000 in
set_option maxHeartbeats 16000000 in
theorem sroute_any (b : Nat) (L : List TokD) (i : Nat) (X : XV) (p0 : Nat) (w : World) (h : SOk b L i X w) (hp : CapAt p0 b w) :
    Calls Tryz.prog 113 #[.pointer (some ⟨p0, 0, none⟩)] w (GotR b L X w (routeRD L (rd i)).1 (routeRD L (rd i)).2) := by
  obtain ⟨iS, hiS, hziS1, hziS2, hziS3⟩ := info_parts info_string
  obtain ⟨iI, hiI, hziI1, hziI2, hziI3⟩ := info_parts info_i64
  have HLT := Lib.hid h.lt
  have hLL := h.len
  have HO := Lib.hid h
  have HX := Lib.hid hp
  obtain ⟨⟨s1, nm⟩, h1⟩ : ∃ r, nameD L (rd i) = r := ⟨_, rfl⟩
  obtain ⟨⟨s2, n0⟩, h2⟩ : ∃ r, nameD L s1 = r := ⟨_, rfl⟩
  obtain ⟨RES, hres⟩ : ∃ r, routeRun L (L.length + 1) s2 [n0] [] [] = r := ⟨_, rfl⟩
  have HRR := Lib.hid (show routeRD L (rd i) = (RES.1, { RES.2.1 with name := nm }) by unfold routeRD; simp only [h1, h2, hres])
  have HB2 := Lib.hid (show s2.e ≠ 0 → RES.1 = s2 from fun he => by rw [← hres, routeRun_bad he])
  have HB1 := Lib.hid (show s1.e ≠ 0 → RES.1 = s1 from fun he => by
    have e1 : s2 = s1 := (congrArg Prod.fst h2).symm.trans (nameD_bad he)
    rw [HB2.out (by rw [e1]; exact he), e1])
  have HRES := Lib.hid hres
  have HH1 := Lib.hid h1
  have HH2 := Lib.hid h2
  rw [HRR.out]
  dsimp only
  clear h hp h1 h2 hres HRR
  go_enter Tryz.func113, Tryz.ntmps113
  go_upto_region 1 with fail
  obtain ⟨q, hq⟩ : ∃ q, w.heap.size = q := ⟨_, rfl⟩
  obtain ⟨a0, hw⟩ : ∃ w1, w.alloc (.cells #[.string ⟨#[]⟩, .slice none 0 0, .slice none 0 0, .slice none 0 0] 57) = w1 := ⟨_, rfl⟩
  have hb : Below w.heap.size w a0 := by rw [← hw]; exact (Below.refl _ _).alloc (Nat.le_refl _) _
  have HG := Lib.hid (show RG b L X p0 w q q [] (.slice none 0 0) (.slice none 0 0) (.slice none 0 0) [] [] [] i a0 from
    ⟨HO.out.new hb, HX.out.new hb, ⟨Ow.nil_, Ow.nil_, Ow.nil_, fun k hk => by simp [Value.ownBlock] at hk, by rw [← hw, ← hq]; exact heap_alloc_new _ _, by rw [← hq]; exact HLT.out, Nat.le_refl _⟩, Keep.of hb (Nat.le_of_lt HLT.out), by rw [← hq]; exact HX.out.lt, by rw [hq]; exact Nat.le_refl _, Nat.le_of_lt HLT.out⟩)
  have HLQ := Lib.hid hq
  try rw [hw]
  try rw [hq]
  clear hw hq hb HO HX
  have hc := sname_any b L i X a0 HG.out.o
  rw [HH1.out] at hc
  dsimp only at hc
  have HCC := Lib.hid hc
  clear hc
  have x0 := HG.out.x.cell
  go_wp2_with fail
  refine got_elim HCC.out ?_ ?_
  · intro w9 he hk
    have hb := HB1.out he
    exact ⟨rfl, .inr ⟨by rw [hb]; exact he, by rw [hb], HG.out.k.trans hk⟩⟩
  rintro j1 a1 rfl ho hk
  have HG1 := Lib.hid (HG.out.next ho hk)
  clear ho hk HG HCC x0
  have y1 : a1.cell? ⟨q, 0, none⟩ = some (.string ⟨#[]⟩) := Lib.cell_of_heap HG1.out.t.x 0
  have y2 : a1.frozen? ⟨q, 0, none⟩ = false := Lib.frozen_of_heap HG1.out.t.x 0
  go_upto_region 2 with fail
  clear y1 y2
  obtain ⟨a2, hw⟩ : ∃ w9, a1.setCell ⟨q, 0, none⟩ (.string (ba nm)) = w9 := ⟨_, rfl⟩
  have HG := Lib.hid (show RG b L X p0 w q q nm (.slice none 0 0) (.slice none 0 0) (.slice none 0 0) [] [] [] j1 a2 by
    rw [← hw]
    exact ⟨HG1.out.o.set (by have := HG1.out.t.hb; have := HG1.out.t.hq; omega) 0 _, HG1.out.x.set HG1.out.hp 0 _, ⟨Ow.nil_, Ow.nil_, Ow.nil_, HG1.out.t.ry, heap_setCell_same a1 q 0 _ _ _ HG1.out.t.x, HG1.out.t.hb, HG1.out.t.hq⟩, HG1.out.k.newSet HG1.out.hw HG1.out.h0 0 _, HG1.out.hp, HG1.out.hw, HG1.out.h0⟩)
  try rw [hw]
  clear hw HG1
  have hSw : a2.cell? ⟨q, 1, none⟩ = some (.slice none 0 0) ∧ a2.cell? ⟨p0, 0, none⟩ = some (.pointer (some ⟨b, 0, none⟩)) := ⟨Lib.cell_of_heap HG.out.t.x 1, HG.out.x.cell⟩
  refine wp_region_kindsP [] (fun c w9 => ∃ r : Rd, r.e ≠ 0 ∧ RES.1 = r ∧ c = give r ∧ Keep b w w9) ?_ (fun wy => wy.cell? ⟨q, 1, none⟩ = some (.slice none 0 0) ∧ wy.cell? ⟨p0, 0, none⟩ = some (.pointer (some ⟨b, 0, none⟩))) [3, 4] [5, 7] [1, 2] [0, 6] [0, 1, 2, 3, 4, 5, 6, 7] (by kernel_rfl) (by kernel_rfl) (fun w n h => h) ?_
  · rintro c a w9 hd ⟨r, he, hr, rfl, hk⟩
    exact ⟨hd, .inr ⟨by rw [hr]; exact he, by rw [hr], hk⟩⟩
  repeat (first | (refine wpKind_free (v := ?_) (by rfl) rfl (by rfl) ?_ ?_; rotate_left 1; (focus (intro wy; go_simp; try with_reducible rfl; done)); try simp only [Act.put, List.setIfInBounds_toArray, List.set_cons_zero, List.set_cons_succ]) | (refine wpKind_held (v := ?_) (by rfl) rfl (by rfl) hSw ?_ ?_; rotate_left 1; (focus (intro wy hSy; obtain ⟨s0, s1⟩ := hSy; go_simp; try with_reducible rfl; done)); try simp only [Act.put, List.setIfInBounds_toArray, List.set_cons_zero, List.set_cons_succ]))
  clear hSw
  refine wpKind_keeps (by rfl) rfl (fun n1 => ?_)
  have hc := sname_any b L j1 X (a2.drewN n1) (HG.out.o.drewN n1)
  rw [HH2.out] at hc
  dsimp only at hc
  have HCC := Lib.hid hc
  clear hc
  go_wp2_with fail
  refine got_elim HCC.out ?_ ?_
  · intro w9 he hk
    exact ⟨rfl, s2, he, HB2.out he, rfl, (HG.out.k.drewN n1).trans hk⟩
  rintro j2 w5 rfl ho hk
  have HG5 := Lib.hid ((HG.out.drewN n1).next ho hk)
  clear ho hk HG HCC
  go_wp2_with fail
  show _ ∧ _
  refine ⟨⟨Lib.cell_of_heap HG5.out.t.x 1, HG5.out.x.cell⟩, ?_⟩
  refine wpKind_keeps (by rfl) rfl (fun n2 => ?_)
  go_wp2_with fail
  show _ ∧ _
  refine ⟨⟨Lib.cell_of_heap ((HG5.out.drewN n2).alloc (.cells #[.string (ba n0)] 9)).t.x 1, ((HG5.out.drewN n2).alloc (.cells #[.string (ba n0)] 9)).x.cell⟩, ?_⟩
  refine wpKind_serial (by rfl) rfl (fun n3 => ?_)
  go_wp2_with (at_builtin; refine wpList_append_sl _ rfl _ _ _ rfl q 9 iS _ 16 Tryz.underlying22 hiS hziS1 hziS2 hziS3 rfl (by omega) nc_len nc_one _ _ [] [n0] rfl rfl ((((HG5.out.drewN n2).alloc (.cells #[.string (ba n0)] 9)).drewN n3).t.s) (((Sl.new1 n0 rfl).drewN n3)) (by simp only [maxLen, List.length_cons, List.length_nil]; omega) (by simp only [List.length_cons, List.length_nil]; omega) ((((HG5.out.drewN n2).alloc (.cells #[.string (ba n0)] 9)).drewN n3).t.lB) ?_; intro v1 w6 hown1 hg1 hmv1; obtain ⟨A1, c1, rfl⟩ : ∃ A cap, v1 = .slice A (1) cap := (by obtain ⟨A, cap, e⟩ := ow_slice nc_len hown1; exact ⟨A, cap, by rw [e]; simp⟩))
  have HG6 := Lib.hid ((((HG5.out.drewN n2).alloc (.cells #[.string (ba n0)] 9)).drewN n3).row (.slice A1 (1) c1) hg1 (fun k hk => ((((HG5.out.drewN n2).alloc (.cells #[.string (ba n0)] 9)).drewN n3).t.s.lt hk).1) ((((HG5.out.drewN n2).alloc (.cells #[.string (ba n0)] 9)).drewN n3).t.putS hown1 hg1))
  have hx6 := (hg1.block q (((HG5.out.drewN n2).alloc (.cells #[.string (ba n0)] 9)).drewN n3).t.lq (Ne.symm (ow_ne (((HG5.out.drewN n2).alloc (.cells #[.string (ba n0)] 9)).drewN n3).t.s (((HG5.out.drewN n2).alloc (.cells #[.string (ba n0)] 9)).drewN n3).t.x (by decide)))).trans (((HG5.out.drewN n2).alloc (.cells #[.string (ba n0)] 9)).drewN n3).t.x
  have y1 : w6.cell? ⟨q, 1, none⟩ = some (.slice none 0 0) := Lib.cell_of_heap hx6 1
  have y2 : w6.frozen? ⟨q, 1, none⟩ = false := Lib.frozen_of_heap hx6 1
  have HN6 := Lib.hid hx6
  clear hown1 hg1 hmv1 hx6 HG5
  repeat (first | (refine wpKind_free (v := ?_) (by rfl) rfl (by rfl) ?_ ?_; rotate_left 1; (focus (intro wy; go_simp; try with_reducible rfl; done)); try simp only [Act.put, List.setIfInBounds_toArray, List.set_cons_zero, List.set_cons_succ]))
  refine wpKind_serial (by rfl) rfl (fun n4 => ?_)
  go_wp2_with fail
  clear y1 y2
  show wpKind _ _ _ _ _ _ _ _ _
  refine wpKind_nilP fun n5 => ?_
  obtain ⟨a3, hw7⟩ : ∃ w7, ((w6.drewN n4).setCell ⟨q, 1, none⟩ (.slice A1 (1) c1)).drewN n5 = w7 := ⟨_, rfl⟩
  have HG := Lib.hid (show RG b L X p0 w q q nm (.slice A1 1 c1) (.slice none 0 0) (.slice none 0 0) ([] ++ [n0]) ([]) ([]) j2 a3 by rw [← hw7]; exact (HG6.out.drewN n4).drewN n5)
  try rw [hw7]
  clear hw7 HG6 HN6
  go_wp2_with fail
  go_loopg [2] (L.length + 1) (fun gg v2 wr => ∃ (j : Nat) (As : Option Addr) (cs : Nat) (Ar : Option Addr) (cr : Nat) (Ay : Option Addr) (cy : Nat) (ss : Nms) (rs ys : List Int), RG b L X p0 w q q nm (.slice As ss.length cs) (.slice Ar rs.length cr) (.slice Ay ys.length cy) ss rs ys j wr ∧ L.length - j < gg ∧ ss.length + gg ≤ L.length + 3 ∧ rs.length ≤ ss.length ∧ ys.length ≤ ss.length ∧ routeRun L gg (rd j) ss rs ys = RES)
  case atStart => exact ⟨j2, A1, c1, none, 0, none, 0, [n0], [], [], HG.out, by omega, by simp only [List.length_cons, List.length_nil]; omega, by simp, by simp, HRES.out⟩
  case round =>
    clear HG HRES HB1 HB2 HH1 HH2
    obtain ⟨j, As, cs, Ar, cr, Ay, cy, ss, rs, ys, hgx, hgg, hsz, hrl, hyl, hrun⟩ := hrel
    have HG := Lib.hid hgx
    obtain ⟨n, rfl⟩ : ∃ n, gk = n + 1 := ⟨gk - 1, by omega⟩
    have HGG := Lib.hid hgg
    have hssl : ss.length ≤ 1048580 := by omega
    have hrsl : rs.length ≤ 1048580 := by omega
    have hysl : ys.length ≤ 1048580 := by omega
    obtain ⟨⟨s1, ride⟩, h1⟩ : ∃ r, numD L (rd j) = r := ⟨_, rfl⟩
    have HH1 := Lib.hid h1
    have HRUN := Lib.hid hrun
    have HC1 := Lib.hid (show s1.e ≠ 0 → RES.1 = s1 from fun he => by
      have e1 : (nameD L (midR L s1 ss.length)).1 = s1 := by rw [midR_bad he, nameD_bad he]
      rw [← hrun, run_fail rfl (by rw [h1]; dsimp only; rw [e1]; exact he), h1]
      exact e1)
    have HSZ := Lib.hid hsz
    have HRL := Lib.hid hrl
    have HYL := Lib.hid hyl
    clear hgx hgg h1 hrun hsz hrl hyl
    go_upto_region 3 with fail
    have hSw : wr.cell? ⟨q, 2, none⟩ = some (.slice Ar rs.length cr) ∧ wr.cell? ⟨p0, 0, none⟩ = some (.pointer (some ⟨b, 0, none⟩)) := ⟨Lib.cell_of_heap HG.out.t.x 2, HG.out.x.cell⟩
    refine wp_region_kindsP [] (fun c w9 => ∃ r : Rd, r.e ≠ 0 ∧ RES.1 = r ∧ c = give r ∧ Keep b w w9) ?_ (fun wy => wy.cell? ⟨q, 2, none⟩ = some (.slice Ar rs.length cr) ∧ wy.cell? ⟨p0, 0, none⟩ = some (.pointer (some ⟨b, 0, none⟩))) [3, 4] [5, 7] [1, 2] [0, 6] [0, 1, 2, 3, 4, 5, 6, 7] (by kernel_rfl) (by kernel_rfl) (fun w n h => h) ?_
    · rintro c a w9 hd ⟨r, he, hr, rfl, hk⟩
      exact ⟨hd, .inr ⟨by rw [hr]; exact he, by rw [hr], hk⟩⟩
    repeat (first | (refine wpKind_free (v := ?_) (by rfl) rfl (by rfl) ?_ ?_; rotate_left 1; (focus (intro wy; go_simp; try with_reducible rfl; done)); try simp only [Act.put, List.setIfInBounds_toArray, List.set_cons_zero, List.set_cons_succ]) | (refine wpKind_held (v := ?_) (by rfl) rfl (by rfl) hSw ?_ ?_; rotate_left 1; (focus (intro wy hSy; obtain ⟨s0, s1⟩ := hSy; go_simp; try with_reducible rfl; done)); try simp only [Act.put, List.setIfInBounds_toArray, List.set_cons_zero, List.set_cons_succ]))
    clear hSw
    refine wpKind_keeps (by rfl) rfl (fun n1 => ?_)
    have hc := snum_any b L j X (wr.drewN n1) (HG.out.o.drewN n1)
    rw [HH1.out] at hc
    dsimp only at hc
    have HCC := Lib.hid hc
    clear hc
    go_wp2_with fail
    refine got_elim HCC.out ?_ ?_
    · intro w9 he hk
      exact ⟨rfl, s1, he, HC1.out he, rfl, (HG.out.k.drewN n1).trans hk⟩
    rintro j1 w5 rfl ho hk
    have HG5 := Lib.hid ((HG.out.drewN n1).next ho hk)
    clear ho hk HG HCC
    go_wp2_with fail
    show _ ∧ _
    refine ⟨⟨Lib.cell_of_heap HG5.out.t.x 2, HG5.out.x.cell⟩, ?_⟩
    refine wpKind_keeps (by rfl) rfl (fun n2 => ?_)
    go_wp2_with fail
    show _ ∧ _
    refine ⟨⟨Lib.cell_of_heap ((HG5.out.drewN n2).alloc (.cells #[.int .i64 ride] 2)).t.x 2, ((HG5.out.drewN n2).alloc (.cells #[.int .i64 ride] 2)).x.cell⟩, ?_⟩
    refine wpKind_serial (by rfl) rfl (fun n3 => ?_)
    go_wp2_with (at_builtin; refine wpList_append_sl _ rfl _ _ _ rfl q 2 iI _ 8 Tryz.underlying55 hiI hziI1 hziI2 hziI3 rfl (by omega) ic_len ic_one _ _ rs [ride] rfl rfl ((((HG5.out.drewN n2).alloc (.cells #[.int .i64 ride] 2)).drewN n3).t.r) (((Sl.new1 ride rfl).drewN n3)) (by simp only [maxLen, List.length_cons, List.length_nil]; omega) (by simp only [List.length_cons, List.length_nil]; omega) ((((HG5.out.drewN n2).alloc (.cells #[.int .i64 ride] 2)).drewN n3).t.lB) ?_; intro v1 w6 hown1 hg1 hmv1; obtain ⟨A2, c2, rfl⟩ : ∃ A cap, v1 = .slice A (rs.length + 1) cap := (by obtain ⟨A, cap, e⟩ := ow_slice ic_len hown1; exact ⟨A, cap, by rw [e]; simp⟩))
    have HG6 := Lib.hid ((((HG5.out.drewN n2).alloc (.cells #[.int .i64 ride] 2)).drewN n3).row (.slice A2 (rs.length + 1) c2) hg1 (fun k hk => ((((HG5.out.drewN n2).alloc (.cells #[.int .i64 ride] 2)).drewN n3).t.r.lt hk).1) ((((HG5.out.drewN n2).alloc (.cells #[.int .i64 ride] 2)).drewN n3).t.putR hown1 hg1 hmv1))
    have hx6 := (hg1.block q (((HG5.out.drewN n2).alloc (.cells #[.int .i64 ride] 2)).drewN n3).t.lq (Ne.symm (ow_ne (((HG5.out.drewN n2).alloc (.cells #[.int .i64 ride] 2)).drewN n3).t.r (((HG5.out.drewN n2).alloc (.cells #[.int .i64 ride] 2)).drewN n3).t.x (by decide)))).trans (((HG5.out.drewN n2).alloc (.cells #[.int .i64 ride] 2)).drewN n3).t.x
    have y1 : w6.cell? ⟨q, 2, none⟩ = some (.slice Ar rs.length cr) := Lib.cell_of_heap hx6 2
    have y2 : w6.frozen? ⟨q, 2, none⟩ = false := Lib.frozen_of_heap hx6 2
    have HN6 := Lib.hid hx6
    clear hown1 hg1 hmv1 hx6 HG5
    repeat (first | (refine wpKind_free (v := ?_) (by rfl) rfl (by rfl) ?_ ?_; rotate_left 1; (focus (intro wy; go_simp; try with_reducible rfl; done)); try simp only [Act.put, List.setIfInBounds_toArray, List.set_cons_zero, List.set_cons_succ]))
    refine wpKind_serial (by rfl) rfl (fun n4 => ?_)
    go_wp2_with fail
    clear y1 y2
    show wpKind _ _ _ _ _ _ _ _ _
    refine wpKind_nilP fun n5 => ?_
    obtain ⟨w8, hw7⟩ : ∃ w7, ((w6.drewN n4).setCell ⟨q, 2, none⟩ (.slice A2 (rs.length + 1) c2)).drewN n5 = w7 := ⟨_, rfl⟩
    have HG := Lib.hid (show RG b L X p0 w q q nm (.slice As ss.length cs) (.slice A2 (rs.length + 1) c2) (.slice Ay ys.length cy) (ss) (rs ++ [ride]) (ys) j1 w8 by rw [← hw7]; exact (HG6.out.drewN n4).drewN n5)
    try rw [hw7]
    clear hw7 HG6 HN6
    have x1 : w8.cell? ⟨q, 1, none⟩ = some (.slice As ss.length cs) := Lib.cell_of_heap HG.out.t.x 1
    have x0 := HG.out.x.cell
    go_upto_region 4 with fail
    go_cut [29] (fun v29 wx => v29 = .bool (decide (ss.length = 32 ∧ (nowD L (rd j1)).kind = 1)) ∧ RG b L X p0 w q q nm (.slice As ss.length cs) (.slice A2 (rs.length + 1) c2) (.slice Ay ys.length cy) ss (rs ++ [ride]) ys j1 wx)
    case first =>
      by_cases hlen : ss.length = 32
      · have c1 : ((ss.length : Int) == 32) = true := beq_iff_eq.2 (by omega)
        have hf0 := fd0 (nowD L (rd j1))
        go_wp2_with fail
        refine (snow_any b L j1 X w8 HG.out.o).mono ?_
        rintro e w9 ⟨rfl, hb⟩
        unfold tkc
        have HG9 := Lib.hid (HG.out.new hb)
        clear hb
        have HD := Lib.hid (show ((nowD L (rd j1)).kind == 1) = decide (ss.length = 32 ∧ (nowD L (rd j1)).kind = 1) by
          rw [Bool.eq_iff_iff]; simp [hlen])
        go_wp2_with fail
        go_meet
        case rel => exact ⟨by rw [HD.out], HG9.out⟩
      · have c1 : ((ss.length : Int) == 32) = false := beq_eq_false_iff_ne.2 (by omega)
        have HD := Lib.hid (show false = decide (ss.length = 32 ∧ (nowD L (rd j1)).kind = 1) from (decide_eq_false (by rintro ⟨h, _⟩; exact hlen h)).symm)
        go_wp2_with fail
        go_meet
        case rel => exact ⟨by rw [HD.out], HG.out⟩
    case rest =>
      obtain ⟨rfl, hgx⟩ := hcut
      have HG3 := Lib.hid hgx
      clear hgx HG x1 x0
      by_cases hcc : ss.length = 32 ∧ (nowD L (rd j1)).kind = 1
      · rw [decide_eq_true hcc]
        have HM := Lib.hid (show RES.1 = failD (rd j1) 3 (nowD L (rd j1)) from by
          have e1 : (nameD L (midR L (rd j1) ss.length)).1 = failD (rd j1) 3 (nowD L (rd j1)) := by rw [mid_yes hcc, nameD_bad (fail_rd L j1 3 (by decide))]
          rw [← HRUN.out, run_fail rfl (by rw [HH1.out]; dsimp only; rw [e1]; exact fail_rd L j1 3 (by decide)), HH1.out]
          exact e1)
        have HF3 := Lib.hid (fail_rd L j1 3 (by decide))
        clear hcc
        have x0 := HG3.out.x.cell
        go_wp2_with fail
        refine (sfail_any b L j1 X 3 wc HG3.out.o).mono ?_
        rintro e w5 ⟨rfl, hb⟩
        have HK5 := Lib.hid (HG3.out.k.trans (Keep.of hb (Nat.le_of_lt HG3.out.o.lt)))
        clear hb
        try go_wp2_with fail
        exact ⟨rfl, .inr ⟨by rw [HM.out]; exact HF3.out, by rw [HM.out], HK5.out⟩⟩
      · rw [decide_eq_false hcc]
        have HMD := Lib.hid (mid_no hcc)
        obtain ⟨⟨s2, nw⟩, h2⟩ : ∃ r, nameD L (rd j1) = r := ⟨_, rfl⟩
        have HM := Lib.hid (show nameD L (midR L (numD L (rd j)).1 ss.length) = (s2, nw) by rw [HH1.out]; show nameD L (midR L (rd j1) ss.length) = _; rw [HMD.out, h2])
        have HC2 := Lib.hid (show s2.e ≠ 0 → RES.1 = s2 from fun he => by rw [← HRUN.out, run_fail rfl (by rw [HM.out]; exact he), HM.out])
        have HH2 := Lib.hid h2
        have HG := Lib.hid HG3.out
        clear hcc h2 HMD HG3
        go_upto_region 6 with fail
        have hSw : wc.cell? ⟨q, 1, none⟩ = some (.slice As ss.length cs) ∧ wc.cell? ⟨p0, 0, none⟩ = some (.pointer (some ⟨b, 0, none⟩)) := ⟨Lib.cell_of_heap HG.out.t.x 1, HG.out.x.cell⟩
        refine wp_region_kindsP [] (fun c w9 => ∃ r : Rd, r.e ≠ 0 ∧ RES.1 = r ∧ c = give r ∧ Keep b w w9) ?_ (fun wy => wy.cell? ⟨q, 1, none⟩ = some (.slice As ss.length cs) ∧ wy.cell? ⟨p0, 0, none⟩ = some (.pointer (some ⟨b, 0, none⟩))) [3, 4] [5, 7] [1, 2] [0, 6] [0, 1, 2, 3, 4, 5, 6, 7] (by kernel_rfl) (by kernel_rfl) (fun w n h => h) ?_
        · rintro c a w9 hd ⟨r, he, hr, rfl, hk⟩
          exact ⟨hd, .inr ⟨by rw [hr]; exact he, by rw [hr], hk⟩⟩
        repeat (first | (refine wpKind_free (v := ?_) (by rfl) rfl (by rfl) ?_ ?_; rotate_left 1; (focus (intro wy; go_simp; try with_reducible rfl; done)); try simp only [Act.put, List.setIfInBounds_toArray, List.set_cons_zero, List.set_cons_succ]) | (refine wpKind_held (v := ?_) (by rfl) rfl (by rfl) hSw ?_ ?_; rotate_left 1; (focus (intro wy hSy; obtain ⟨s0, s1⟩ := hSy; go_simp; try with_reducible rfl; done)); try simp only [Act.put, List.setIfInBounds_toArray, List.set_cons_zero, List.set_cons_succ]))
        clear hSw
        refine wpKind_keeps (by rfl) rfl (fun n1 => ?_)
        have hc := sname_any b L j1 X (wc.drewN n1) (HG.out.o.drewN n1)
        rw [HH2.out] at hc
        dsimp only at hc
        have HCC := Lib.hid hc
        clear hc
        go_wp2_with fail
        refine got_elim HCC.out ?_ ?_
        · intro w9 he hk
          exact ⟨rfl, s2, he, HC2.out he, rfl, (HG.out.k.drewN n1).trans hk⟩
        rintro j2 w5 rfl ho hk
        have HG5 := Lib.hid ((HG.out.drewN n1).next ho hk)
        clear ho hk HG HCC
        go_wp2_with fail
        show _ ∧ _
        refine ⟨⟨Lib.cell_of_heap HG5.out.t.x 1, HG5.out.x.cell⟩, ?_⟩
        refine wpKind_keeps (by rfl) rfl (fun n2 => ?_)
        go_wp2_with fail
        show _ ∧ _
        refine ⟨⟨Lib.cell_of_heap ((HG5.out.drewN n2).alloc (.cells #[.string (ba nw)] 9)).t.x 1, ((HG5.out.drewN n2).alloc (.cells #[.string (ba nw)] 9)).x.cell⟩, ?_⟩
        refine wpKind_serial (by rfl) rfl (fun n3 => ?_)
        go_wp2_with (at_builtin; refine wpList_append_sl _ rfl _ _ _ rfl q 9 iS _ 16 Tryz.underlying22 hiS hziS1 hziS2 hziS3 rfl (by omega) nc_len nc_one _ _ ss [nw] rfl rfl ((((HG5.out.drewN n2).alloc (.cells #[.string (ba nw)] 9)).drewN n3).t.s) (((Sl.new1 nw rfl).drewN n3)) (by simp only [maxLen, List.length_cons, List.length_nil]; omega) (by simp only [List.length_cons, List.length_nil]; omega) ((((HG5.out.drewN n2).alloc (.cells #[.string (ba nw)] 9)).drewN n3).t.lB) ?_; intro v1 w6 hown1 hg1 hmv1; obtain ⟨A1, c1, rfl⟩ : ∃ A cap, v1 = .slice A (ss.length + 1) cap := (by obtain ⟨A, cap, e⟩ := ow_slice nc_len hown1; exact ⟨A, cap, by rw [e]; simp⟩))
        have HG6 := Lib.hid ((((HG5.out.drewN n2).alloc (.cells #[.string (ba nw)] 9)).drewN n3).row (.slice A1 (ss.length + 1) c1) hg1 (fun k hk => ((((HG5.out.drewN n2).alloc (.cells #[.string (ba nw)] 9)).drewN n3).t.s.lt hk).1) ((((HG5.out.drewN n2).alloc (.cells #[.string (ba nw)] 9)).drewN n3).t.putS hown1 hg1))
        have hx6 := (hg1.block q (((HG5.out.drewN n2).alloc (.cells #[.string (ba nw)] 9)).drewN n3).t.lq (Ne.symm (ow_ne (((HG5.out.drewN n2).alloc (.cells #[.string (ba nw)] 9)).drewN n3).t.s (((HG5.out.drewN n2).alloc (.cells #[.string (ba nw)] 9)).drewN n3).t.x (by decide)))).trans (((HG5.out.drewN n2).alloc (.cells #[.string (ba nw)] 9)).drewN n3).t.x
        have y1 : w6.cell? ⟨q, 1, none⟩ = some (.slice As ss.length cs) := Lib.cell_of_heap hx6 1
        have y2 : w6.frozen? ⟨q, 1, none⟩ = false := Lib.frozen_of_heap hx6 1
        have HN6 := Lib.hid hx6
        clear hown1 hg1 hmv1 hx6 HG5
        repeat (first | (refine wpKind_free (v := ?_) (by rfl) rfl (by rfl) ?_ ?_; rotate_left 1; (focus (intro wy; go_simp; try with_reducible rfl; done)); try simp only [Act.put, List.setIfInBounds_toArray, List.set_cons_zero, List.set_cons_succ]))
        refine wpKind_serial (by rfl) rfl (fun n4 => ?_)
        go_wp2_with fail
        clear y1 y2
        show wpKind _ _ _ _ _ _ _ _ _
        refine wpKind_nilP fun n5 => ?_
        obtain ⟨w8, hw7⟩ : ∃ w7, ((w6.drewN n4).setCell ⟨q, 1, none⟩ (.slice A1 (ss.length + 1) c1)).drewN n5 = w7 := ⟨_, rfl⟩
        have HG := Lib.hid (show RG b L X p0 w q q nm (.slice A1 (ss.length + 1) c1) (.slice A2 (rs.length + 1) c2) (.slice Ay ys.length cy) (ss ++ [nw]) (rs ++ [ride]) (ys) j2 w8 by rw [← hw7]; exact (HG6.out.drewN n4).drewN n5)
        try rw [hw7]
        clear hw7 HG6 HN6
        have hf0 := fd0 (nowD L (rd j2))
        have x0 := HG.out.x.cell
        go_wp2_with fail
        refine (snow_any b L j2 X w8 HG.out.o).mono ?_
        rintro e w9 ⟨rfl, hb⟩
        unfold tkc
        have HG9 := Lib.hid (HG.out.new hb)
        clear hb HG x0
        by_cases hk4 : (nowD L (rd j2)).kind = 4
        · have c4 : ((nowD L (rd j2)).kind == 4) = true := beq_iff_eq.2 hk4
          have HR := Lib.hid (routeRun_ret (L := L) (n := n) (s := rd j) (ss := ss) (rs := rs) (ys := ys) rfl (by rw [HM.out]; exact .inr hk4))
          rw [HM.out, HH1.out, HRUN.out] at HR
          clear hk4
          have x0 : w9.cell? ⟨q, 0, none⟩ = some (.string (ba nm)) := Lib.cell_of_heap HG9.out.t.x 0
          have x1 : w9.cell? ⟨q, 1, none⟩ = some (.slice A1 (ss.length + 1) c1) := Lib.cell_of_heap HG9.out.t.x 1
          have x2 : w9.cell? ⟨q, 2, none⟩ = some (.slice A2 (rs.length + 1) c2) := Lib.cell_of_heap HG9.out.t.x 2
          have x3 : w9.cell? ⟨q, 3, none⟩ = some (.slice Ay ys.length cy) := Lib.cell_of_heap HG9.out.t.x 3
          go_wp2_with (first | (refine wpList_store_row rfl 57 _ _ rfl q #[.string (ba nm), .slice A1 (ss.length + 1) c1, .slice A2 (rs.length + 1) c2, .slice Ay ys.length cy] rfl rfl 57 #[.string (ba nm), .slice A1 (ss.length + 1) c1, .slice A2 (rs.length + 1) c2, .slice Ay ys.length cy] HG9.out.t.x (by kernel_rfl) rfl (four_all _ _ _ _ _ _ _ _ _ _) ?_))
          try simp only [Exit.inBlock, Exit.then]
          refine bodyPost_ret (results_cell_row rfl _ _ q _ _ (0, 0) _ rfl (setRow_heap _ _ _ _ _ _ HG9.out.t.x) Tryz.underlying57 rfl (by kernel_rfl)) rfl ?_
          refine .inl ⟨j2, ⟨nm, .slice A1 (ss.length + 1) c1, .slice A2 (rs.length + 1) c2, .slice Ay ys.length cy, ss ++ [nw], rs ++ [ride], ys⟩, ?_, ?_, rfl, ?_, HG9.out.o.row (by have := HG9.out.t.hb; have := HG9.out.t.hq; omega) _, HG9.out.k.newRow HG9.out.hw HG9.out.h0 _⟩
          · rw [HR.out]
          · rw [HR.out]; rfl
          · rw [HLQ.out]; exact HG9.out.t.good _
        · have c4 : ((nowD L (rd j2)).kind == 4) = false := beq_eq_false_iff_ne.2 hk4
          have HR := Lib.hid (routeRun_go (L := L) (n := n) (s := rd j) (ss := ss) (rs := rs) (ys := ys) rfl (by rw [HM.out]; rintro (h | h); exact h rfl; exact hk4 h))
          rw [HM.out, HH1.out, HRUN.out] at HR
          have HRA := Lib.hid (fun h => round_at (L := L) (s := rd j) (n := ss.length) h (by rw [HM.out]; rfl))
          rw [HM.out] at HRA
          dsimp only at HR HRA
          have his := sis_any b L j2 X kStay w9 HG9.out.o
          rw [show ba kStay = ⟨#[115, 116, 97, 121]⟩ from rfl] at his
          have HIS := Lib.hid his
          clear hk4 his
          have x0 := HG9.out.x.cell
          go_wp2_with fail
          refine HIS.out.mono ?_
          rintro e w10 ⟨rfl, hb⟩
          have HG := Lib.hid (HG9.out.new hb)
          clear hb HG9 HIS x0
          cases his2 : isD L (rd j2) kStay
          · have HST := Lib.hid (show stayR L (rd j2) = (rd j2, 0) by unfold stayR; rw [if_neg (by rw [his2]; decide)])
            rw [HST.out] at HR HRA
            dsimp only at HR HRA
            clear his2
            have x3 : w10.cell? ⟨q, 3, none⟩ = some (.slice Ay ys.length cy) := Lib.cell_of_heap HG.out.t.x 3
            go_wp2_with (at_builtin; refine wpList_append_sl _ rfl _ _ _ rfl q 2 iI _ 8 Tryz.underlying55 hiI hziI1 hziI2 hziI3 rfl (by omega) ic_len ic_one _ _ ys [0] rfl rfl ((HG.out.alloc _).t.y) ((Sl.new1 0 rfl)) (by simp only [maxLen, List.length_cons, List.length_nil]; omega) (by simp only [List.length_cons, List.length_nil]; omega) ((HG.out.alloc _).t.lB) ?_; intro v1 w6 hown1 hg1 hmv1; obtain ⟨A3, c3, rfl⟩ : ∃ A cap, v1 = .slice A (ys.length + 1) cap := (by obtain ⟨A, cap, e⟩ := ow_slice ic_len hown1; exact ⟨A, cap, by rw [e]; simp⟩); have hx6 := (hg1.block q (HG.out.alloc (.cells #[.int .i64 0] 2)).t.lq (Ne.symm (ow_ne (HG.out.alloc (.cells #[.int .i64 0] 2)).t.y (HG.out.alloc (.cells #[.int .i64 0] 2)).t.x (by decide)))).trans (HG.out.alloc (.cells #[.int .i64 0] 2)).t.x; have y1 : w6.cell? ⟨q, 3, none⟩ = some (.slice Ay ys.length cy) := Lib.cell_of_heap hx6 3; have y2 : w6.frozen? ⟨q, 3, none⟩ = false := Lib.frozen_of_heap hx6 3)
            have HG6 := Lib.hid ((HG.out.alloc (.cells #[.int .i64 0] 2)).row (.slice A3 (ys.length + 1) c3) hg1 (fun k hk => ((HG.out.alloc (.cells #[.int .i64 0] 2)).t.y.lt hk).1) ((HG.out.alloc (.cells #[.int .i64 0] 2)).t.putY hown1 hg1 hmv1))
            clear hown1 hg1 hmv1 hx6 y1 y2 x3 HG
            obtain ⟨w13, hw7⟩ : ∃ w7, w6.setCell ⟨q, 3, none⟩ (.slice A3 (ys.length + 1) c3) = w7 := ⟨_, rfl⟩
            rw [hw7] at HG6
            try rw [hw7]
            clear hw7
            go_roundg n
            case measure => omega
            case rel =>
              refine ⟨j2, A1, c1, A2, c2, A3, c3, ss ++ [nw], rs ++ [ride], ys ++ [0], ?_, ?_, ?_, ?_, ?_, HR.out.symm⟩
              · rw [show (ss ++ [nw]).length = ss.length + 1 by simp, show (rs ++ [ride]).length = rs.length + 1 by simp, show (ys ++ [(0 : Int)]).length = ys.length + 1 by simp]
                exact HG6.out
              · have h1 : j + 2 ≤ j2 := HRA.out rfl
                have h2 := HG6.out.o.at_
                have h3 := HGG.out
                omega
              · have := HSZ.out; rw [List.length_append, List.length_cons, List.length_nil]; omega
              · have := HRL.out; rw [List.length_append, List.length_append, List.length_cons, List.length_cons, List.length_nil, List.length_nil]; omega
              · have := HYL.out; rw [List.length_append, List.length_append, List.length_cons, List.length_cons, List.length_nil, List.length_nil]; omega
          · obtain ⟨⟨sS, nS⟩, hst⟩ : ∃ r, afterD L (rd j2) kStay = r := ⟨_, rfl⟩
            have HST := Lib.hid (show stayR L (rd j2) = (sS, nS) by unfold stayR; rw [if_pos his2, hst])
            rw [HST.out] at HR HRA
            dsimp only at HR HRA
            have haf := sbehind_any b L j2 X kStay w10 HG.out.o
            rw [hst, show ba kStay = ⟨#[115, 116, 97, 121]⟩ from rfl] at haf
            dsimp only at haf
            have HAF := Lib.hid haf
            clear his2 hst haf
            have x0 := HG.out.x.cell
            go_wp2_with fail
            refine got_elim HAF.out ?_ ?_
            · intro w9 he hk
              have hb : RES.1 = sS := by rw [HR.out, routeRun_bad he]
              exact ⟨rfl, .inr ⟨by rw [hb]; exact he, by rw [hb], HG.out.k.trans hk⟩⟩
            rintro j3 w11 rfl ho hk
            have HG2 := Lib.hid (HG.out.next ho hk)
            clear ho hk HG HAF x0
            have HG := Lib.hid HG2.out
            clear HG2
            have x3 : w11.cell? ⟨q, 3, none⟩ = some (.slice Ay ys.length cy) := Lib.cell_of_heap HG.out.t.x 3
            go_wp2_with (at_builtin; refine wpList_append_sl _ rfl _ _ _ rfl q 2 iI _ 8 Tryz.underlying55 hiI hziI1 hziI2 hziI3 rfl (by omega) ic_len ic_one _ _ ys [nS] rfl rfl ((HG.out.alloc _).t.y) ((Sl.new1 nS rfl)) (by simp only [maxLen, List.length_cons, List.length_nil]; omega) (by simp only [List.length_cons, List.length_nil]; omega) ((HG.out.alloc _).t.lB) ?_; intro v1 w6 hown1 hg1 hmv1; obtain ⟨A3, c3, rfl⟩ : ∃ A cap, v1 = .slice A (ys.length + 1) cap := (by obtain ⟨A, cap, e⟩ := ow_slice ic_len hown1; exact ⟨A, cap, by rw [e]; simp⟩); have hx6 := (hg1.block q (HG.out.alloc (.cells #[.int .i64 nS] 2)).t.lq (Ne.symm (ow_ne (HG.out.alloc (.cells #[.int .i64 nS] 2)).t.y (HG.out.alloc (.cells #[.int .i64 nS] 2)).t.x (by decide)))).trans (HG.out.alloc (.cells #[.int .i64 nS] 2)).t.x; have y1 : w6.cell? ⟨q, 3, none⟩ = some (.slice Ay ys.length cy) := Lib.cell_of_heap hx6 3; have y2 : w6.frozen? ⟨q, 3, none⟩ = false := Lib.frozen_of_heap hx6 3)
            have HG6 := Lib.hid ((HG.out.alloc (.cells #[.int .i64 nS] 2)).row (.slice A3 (ys.length + 1) c3) hg1 (fun k hk => ((HG.out.alloc (.cells #[.int .i64 nS] 2)).t.y.lt hk).1) ((HG.out.alloc (.cells #[.int .i64 nS] 2)).t.putY hown1 hg1 hmv1))
            clear hown1 hg1 hmv1 hx6 y1 y2 x3 HG
            obtain ⟨w13, hw7⟩ : ∃ w7, w6.setCell ⟨q, 3, none⟩ (.slice A3 (ys.length + 1) c3) = w7 := ⟨_, rfl⟩
            rw [hw7] at HG6
            try rw [hw7]
            clear hw7
            go_roundg n
            case measure => omega
            case rel =>
              refine ⟨j3, A1, c1, A2, c2, A3, c3, ss ++ [nw], rs ++ [ride], ys ++ [nS], ?_, ?_, ?_, ?_, ?_, HR.out.symm⟩
              · rw [show (ss ++ [nw]).length = ss.length + 1 by simp, show (rs ++ [ride]).length = rs.length + 1 by simp, show (ys ++ [(nS : Int)]).length = ys.length + 1 by simp]
                exact HG6.out
              · have h1 : j + 2 ≤ j3 := HRA.out rfl
                have h2 := HG6.out.o.at_
                have h3 := HGG.out
                omega
              · have := HSZ.out; rw [List.length_append, List.length_cons, List.length_nil]; omega
              · have := HRL.out; rw [List.length_append, List.length_append, List.length_cons, List.length_cons, List.length_nil, List.length_nil]; omega
              · have := HYL.out; rw [List.length_append, List.length_append, List.length_cons, List.length_cons, List.length_nil, List.length_nil]; omega
set_option maxHeartbeats 8000000 in
set_option maxRecDepth 100000 in
theorem sgrow_r (B b : Nat) (L : List TokD) (i : Nat) (x : SheetM) (p0 : Nat) (w : World) (h : SOk b L i x.xv w) (hs : ShAt B b x w) (hm : SmallS x) (hp : CapAt p0 b w) (hk : (nowD L (rd i)).kind = 2) :
    Calls Tryz.prog 112 #[.pointer (some ⟨b, 0, none⟩), .pointer (some ⟨b, 5, none⟩), .int .i64 256, .func (.func 113) #[] #[.pointer (some ⟨p0, 0, none⟩)]] w (GotT B b L x w (midT L i x.d kRoute)) := by
  obtain ⟨iT, hiT, hz1, hz2, hz3⟩ := info_parts info_routeQ
  have HLT := Lib.hid h.lt
  have hlen := hm.r
  have HO := Lib.hid h
  have HS := Lib.hid hs
  have HX := Lib.hid hp
  obtain ⟨A0, c0, ev⟩ := ow_slice rcN_len hs.r
  have HF := Lib.hid (sfail_any b L i x.xv 3)
  have HE3 := Lib.hid (fail_rd L i 3 (by decide))
  have HTK := Lib.hid (stake_ok b L i x.xv 2 w h hk (kind_lt hk (by decide)))
  have hful : fullD x.d kRoute = decide (256 ≤ x.routes.length) := by unfold fullD; rw [if_neg (by decide)]; rw [if_neg (by decide)]; rw [if_neg (by decide)]; rw [if_pos rfl]; rw [d_len]
  have x0 : w.cell? ⟨b, 5, none⟩ = some (.slice A0 x.routes.length c0) := (h.cellv 5 _ (fun v => by rw [← ev]; rfl)).1
  unfold midT
  rw [hful]
  obtain ⟨n, hn⟩ : ∃ n, x.routes.length = n := ⟨_, rfl⟩
  by_cases hge : 256 ≤ n
  · rw [hn, decide_eq_true hge, if_pos rfl]
    rw [hn] at x0
    have c1 : decide ((256 : Int) ≤ (n : Int)) = true := decide_eq_true (by omega)
    clear h hs hm hp hful ev hge hlen HTK
    go_enter Tryz.func112, Tryz.ntmps112
    go_wp2_with fail
    refine (HF.out w HO.out).mono ?_
    rintro e w4 ⟨rfl, hb⟩
    have HB4 := Lib.hid (hb.mono (Nat.le_of_lt HLT.out))
    clear hb
    try go_wp2_with fail
    exact ⟨rfl, .inr ⟨HE3.out, rfl, HB4.out⟩⟩
  · have c1 : decide ((256 : Int) ≤ (n : Int)) = false := decide_eq_false (by omega)
    rw [hn, decide_eq_false hge, if_neg (by decide)]
    rw [hn] at x0
    obtain ⟨⟨sN, yd⟩, hy⟩ : ∃ r, routeRD L (rd (i + 1)) = r := ⟨_, rfl⟩
    have HTD := Lib.hid (show thingD L (rd (i + 1)) x.d kRoute = (sN, { x.d with routes := x.d.routes ++ [yd] }) by unfold thingD; rw [if_neg (by decide)]; rw [if_neg (by decide)]; rw [if_neg (by decide)]; rw [if_pos rfl]; rw [hy])
    rw [HTD.out]
    have hq9 := fun w9 h9 p9 => sroute_any b L (i + 1) x.xv p0 w9 h9 p9
    simp only [hy] at hq9
    have HC := Lib.hid hq9
    have HEV := Lib.hid ev
    have HLE := Lib.hid hlen
    have HNN := Lib.hid hn
    clear hq9 h hs hm hp hful hge hy hlen HF HE3 HTD
    dsimp only [tkc] at HTK
    go_enter Tryz.func112, Tryz.ntmps112
    go_wp2_with fail
    refine HTK.out.mono ?_
    rintro e w1 ⟨rfl, ho, hk1⟩
    have HO1 := Lib.hid ho
    have HK1 := Lib.hid hk1
    have HS1 := Lib.hid (HS.out.keep hk1)
    have HX1 := Lib.hid (HX.out.keep hk1)
    clear ho hk1 x0 HTK
    go_upto_region 3 with fail
    have hSw : w1.cell? ⟨b, 5, none⟩ = some (.slice A0 n c0) := (HO1.out.cellv 5 _ (fun v => by rw [← HNN.out, ← HEV.out]; rfl)).1
    refine wp_region_kindsP [] (fun c w9 => ∃ r : Rd, r.e ≠ 0 ∧ sN = r ∧ c = give r ∧ Below b w w9) ?_ (fun wy => wy.cell? ⟨b, 5, none⟩ = some (.slice A0 n c0)) [5, 6] [7, 9] [3] [0, 1, 2, 4, 8] [0, 1, 2, 3, 4, 5, 6, 7, 8, 9] (by kernel_rfl) (by kernel_rfl) (fun w n h => h) ?_
    · rintro c a w9 hd ⟨r, he, rfl, rfl, hk⟩
      exact ⟨hd, .inr ⟨he, rfl, hk⟩⟩
    repeat (first | (refine wpKind_free (v := ?_) (by rfl) rfl (by rfl) ?_ ?_; rotate_left 1; (focus (intro wy; go_simp; try with_reducible rfl; done)); try simp only [Act.put, List.setIfInBounds_toArray, List.set_cons_zero, List.set_cons_succ]) | (refine wpKind_held (v := ?_) (by rfl) rfl (by rfl) hSw ?_ ?_; rotate_left 1; (focus (intro wy hSy; have s0 := hSy; go_simp; try with_reducible rfl; done)); try simp only [Act.put, List.setIfInBounds_toArray, List.set_cons_zero, List.set_cons_succ]))
    clear hSw
    refine wpKind_keeps (by rfl) rfl (fun n1 => ?_)
    go_wp2_with fail
    refine gotr_elim (HC.out (w1.drewN n1) (HO1.out.drewN n1) HX1.out) ?_ ?_
    · intro w9 he hk
      exact ⟨rfl, sN, he, rfl, rfl, HK1.out.below.trans (((Keep.refl b w1).drewN n1).trans hk).below⟩
    rintro j1 ⟨nm0, q1, q2, q3, ss0, rs0, ys0⟩ w5 rfl hd0 hg0 ho hk
    obtain ⟨D1, d1, e1, _, _⟩ := hg0.stops.shape
    obtain ⟨D2, d2, e2, _, _⟩ := hg0.rides.shape
    obtain ⟨D3, d3, e3, _, _⟩ := hg0.stays.shape
    dsimp only at e1 e2 e3
    subst e1 e2 e3
    have HD0 := Lib.hid hd0
    have HG0 := Lib.hid (hg0.mono (Q := apartP x B) fun k hk => HS1.out.apart (show w1.heap.size ≤ k from hk))
    clear hd0 hg0
    unfold rc
    have HK5 := Lib.hid (((Keep.refl b w1).drewN n1).trans hk)
    have HO5 := Lib.hid ho
    have HS5 := Lib.hid (HS1.out.keep HK5.out)
    clear ho hk HC
    go_wp2_with fail
    show _ ∧ _
    refine ⟨(HO5.out.cellv 5 _ (fun v => by rw [← HNN.out, ← HEV.out]; rfl)).1, ?_⟩
    repeat (first | (refine wpKind_free (v := ?_) (by rfl) rfl (by rfl) ?_ ?_; rotate_left 1; (focus (intro wy; go_simp; try with_reducible rfl; done)); try simp only [Act.put, List.setIfInBounds_toArray, List.set_cons_zero, List.set_cons_succ]))
    refine wpKind_keeps (by rfl) rfl (fun n2 => ?_)
    go_wp2_with fail
    show _ ∧ _
    refine ⟨((HO5.out.drewN n2).new ((Below.refl _ _).alloc (Nat.le_refl _) (.cells #[.string (ba nm0), .slice D1 ss0.length d1, .slice D2 rs0.length d2, .slice D3 ys0.length d3] 57))).cellv 5 _ (fun v => by rw [← HNN.out, ← HEV.out]; rfl) |>.1, ?_⟩
    refine wpKind_serial (by rfl) rfl (fun n3 => ?_)
    have HG5 := Lib.hid HG0.out
    have hlen := HLE.out
    have hn := HNN.out
    have ev := HEV.out
    subst hn
    go_wp2_with (at_builtin; refine wpList_append_sl _ rfl _ _ _ rfl B 57 iT _ 88 Tryz.underlying25 hiT hz1 hz2 hz3 rfl (by omega) rcN_len rcN_one _ _ x.routes [(⟨nm0, .slice D1 ss0.length d1, .slice D2 rs0.length d2, .slice D3 ys0.length d3, ss0, rs0, ys0⟩ : RouteM)] rfl rfl ((ev ▸ (((HS5.out.drewN n2).alloc (.cells #[.string (ba nm0), .slice D1 ss0.length d1, .slice D2 rs0.length d2, .slice D3 ys0.length d3] 57)).drewN n3).r)) (((Sl.new1 (c := rcN) (⟨nm0, .slice D1 ss0.length d1, .slice D2 rs0.length d2, .slice D3 ys0.length d3, ss0, rs0, ys0⟩ : RouteM) rfl).drewN n3)) (by simp only [maxLen, List.length_cons, List.length_nil]; omega) (by simp only [List.length_cons, List.length_nil]; omega) ((((HS5.out.drewN n2).alloc (.cells #[.string (ba nm0), .slice D1 ss0.length d1, .slice D2 rs0.length d2, .slice D3 ys0.length d3] 57)).drewN n3).hB) ?_; intro v1 w6 hown1 hg1 hmv1; obtain ⟨A1, c1, rfl⟩ : ∃ A cap, v1 = .slice A (x.routes.length + 1) cap := (by obtain ⟨A, cap, e⟩ := ow_slice rcN_len hown1; exact ⟨A, cap, by rw [e]; simp⟩))
    have HS6 := Lib.hid ((((HS5.out.drewN n2).alloc (.cells #[.string (ba nm0), .slice D1 ss0.length d1, .slice D2 rs0.length d2, .slice D3 ys0.length d3] 57)).drewN n3).put_r hown1 (ev.symm ▸ hg1) (ev.symm ▸ hmv1) (HG0.out.below_ (below_drewN ((below_drewN (Below.refl _ w5) n2).alloc (Nat.le_refl _) (.cells #[.string (ba nm0), .slice D1 ss0.length d1, .slice D2 rs0.length d2, .slice D3 ys0.length d3] 57)) n3)))
    have HFR := Lib.hid (show ∀ k, k < w.heap.size → k ≠ b → apartP x 0 k → w6.heap[k]? = w.heap[k]? ∧ apartP ({ x with vr := .slice A1 (x.routes.length + 1) c1, routes := x.routes ++ [(⟨nm0, .slice D1 ss0.length d1, .slice D2 rs0.length d2, .slice D3 ys0.length d3, ss0, rs0, ys0⟩ : RouteM)] } : SheetM) 0 k from fun k hk hkb hap => by
      have hk1 : k < w1.heap.size := Nat.lt_of_lt_of_le hk HK1.out.size
      have hk2 : k < w5.heap.size := Nat.lt_of_lt_of_le hk1 HK5.out.size
      have hk3 : k < (((w5.drewN n2).alloc (.cells #[.string (ba nm0), .slice D1 ss0.length d1, .slice D2 rs0.length d2, .slice D3 ys0.length d3] 57)).drewN n3).heap.size := by show k < ((w5.drewN n2).alloc (.cells #[.string (ba nm0), .slice D1 ss0.length d1, .slice D2 rs0.length d2, .slice D3 ys0.length d3] 57)).heap.size; rw [World.size_alloc]; show k < w5.heap.size + 1; omega
      refine ⟨(hg1.block k hk3 (by rw [← ev]; exact hap.2.2.2.2.1)).trans ((Below.heap_alloc _ _ _ (show k < (w5.drewN n2).heap.size from hk2)).trans ((HK5.out.block k hk1 hkb).trans (HK1.out.block k hk hkb))), Nat.zero_le _, hap.2.1, hap.2.2.1, hap.2.2.2.1, moved_ne hmv1 hk3 (ev ▸ hap.2.2.2.2.1), hap.2.2.2.2.2.1, hap.2.2.2.2.2.2⟩)
    have hnb : ∀ k, k ≤ b → some k ≠ Value.ownBlock (.slice A0 x.routes.length c0) := fun k hk e => by
      have h1 := (((((HS5.out.drewN n2).alloc (.cells #[.string (ba nm0), .slice D1 ss0.length d1, .slice D2 rs0.length d2, .slice D3 ys0.length d3] 57)).drewN n3).r).lt (k := k) (by rw [ev]; exact e.symm)).1
      have h2 := HS5.out.hb
      omega
    have hbl6 : ∀ k, k ≤ b → w6.heap[k]? = w5.heap[k]? := fun k hk => (hg1.block k (by have := HO5.out.lt; show k < ((w5.drewN n2).alloc (.cells #[.string (ba nm0), .slice D1 ss0.length d1, .slice D2 rs0.length d2, .slice D3 ys0.length d3] 57)).heap.size; rw [World.size_alloc]; show k < w5.heap.size + 1; omega) (hnb k hk)).trans (Below.heap_alloc _ _ _ (by have := HO5.out.lt; show k < w5.heap.size; omega))
    have HO6 := Lib.hid (HO5.out.frame (by have := hg1.size; rw [show ((((w5.drewN n2).alloc (.cells #[.string (ba nm0), .slice D1 ss0.length d1, .slice D2 rs0.length d2, .slice D3 ys0.length d3] 57)).drewN n3)).heap.size = w5.heap.size + 1 from World.size_alloc _ _] at this; omega) hbl6)
    have HBL6 := Lib.hid (show Below b w w6 from HK1.out.below.trans (HK5.out.below.trans ((below_drewN ((below_drewN (Below.refl b w5) n2).alloc (Nat.le_of_lt HO5.out.lt) (.cells #[.string (ba nm0), .slice D1 ss0.length d1, .slice D2 rs0.length d2, .slice D3 ys0.length d3] 57)) n3).grown hg1 (by have := HO5.out.lt; show b ≤ ((w5.drewN n2).alloc (.cells #[.string (ba nm0), .slice D1 ss0.length d1, .slice D2 rs0.length d2, .slice D3 ys0.length d3] 57)).heap.size; rw [World.size_alloc]; show b ≤ w5.heap.size + 1; omega) (fun k hk => Nat.le_of_lt (Nat.lt_of_not_le fun hkb => hnb k hkb hk.symm)))))
    obtain ⟨y1, y2⟩ := HO6.out.cellv 5 (.slice A0 x.routes.length c0) (fun v => by rw [← ev]; rfl)
    clear hown1 hg1 hmv1 hbl6 hnb
    repeat (first | (refine wpKind_free (v := ?_) (by rfl) rfl (by rfl) ?_ ?_; rotate_left 1; (focus (intro wy; go_simp; try with_reducible rfl; done)); try simp only [Act.put, List.setIfInBounds_toArray, List.set_cons_zero, List.set_cons_succ]))
    refine wpKind_serial (by rfl) rfl (fun n4 => ?_)
    go_wp2_with fail
    clear y1 y2
    show wpKind _ _ _ _ _ _ _ _ _
    refine wpKind_nilP fun n5 => ?_
    go_wp2_with fail
    go_end0
    exact .inl ⟨j1, { x with vr := .slice A1 (x.routes.length + 1) c1, routes := x.routes ++ [(⟨nm0, .slice D1 ss0.length d1, .slice D2 rs0.length d2, .slice D3 ys0.length d3, ss0, rs0, ys0⟩ : RouteM)] }, rfl, by rw [← HD0.out]; show (⟨_, _, _, _, (x.routes ++ [_]).map RouteM.d, _, _⟩ : SheetD) = _; rw [List.map_append]; rfl, rfl, ((SOk.put (Y := ({ x with vr := .slice A1 (x.routes.length + 1) c1, routes := x.routes ++ [(⟨nm0, .slice D1 ss0.length d1, .slice D2 rs0.length d2, .slice D3 ys0.length d3, ss0, rs0, ys0⟩ : RouteM)] } : SheetM).xv) (HO6.out.drewN n4) 5 (.slice A1 (x.routes.length + 1) c1) (fun v => rfl)).drewN n5), ((HS6.out.reset 5 _).same rfl), below_drewN ((below_drewN HBL6.out n4).setCell (p := ⟨b, 5, none⟩) (Nat.le_refl _) _) n5, fun k hk hkb hap => ⟨(heap_setCell_other (w6.drewN n4) ⟨b, 5, none⟩ k _ hkb).trans (HFR.out k hk hkb hap).1, (HFR.out k hk hkb hap).2⟩⟩
set_option maxHeartbeats 4000000 in
set_option maxRecDepth 100000 in
theorem sroute_m (B b : Nat) (L : List TokD) (i : Nat) (x : SheetM) (w : World) (h : SOk b L i x.xv w) (hs : ShAt B b x w) (hm : SmallS x) (hk : (nowD L (rd i)).kind = 2) :
    Calls Tryz.prog 93 #[.pointer (some ⟨b, 0, none⟩)] w (GotT B b L x w (midT L i x.d kRoute)) := by
  have HLT := Lib.hid h.lt
  have HC := Lib.hid (fun w2 h2 s2 p2 => sgrow_r B b L i x w.heap.size w2 h2 s2 hm p2 hk)
  have HO := Lib.hid h
  have HS := Lib.hid hs
  have hmf : ∀ (fn : Fn) (first cap : Array Value) (w : World), (Instr.makeFunc fn first cap).run Tryz.prog w = .ok (.func fn first cap) w := fun _ _ _ _ => rfl
  obtain ⟨R, hR⟩ : ∃ R, midT L i x.d kRoute = R := ⟨_, rfl⟩
  rw [hR] at HC ⊢
  clear h hs hm hk hR
  go_enter Tryz.func93, Tryz.ntmps93
  go_upto_region 1 with fail
  obtain ⟨p0, hp0⟩ : ∃ p0, w.heap.size = p0 := ⟨_, rfl⟩
  obtain ⟨w1, hw1⟩ : ∃ w1, w.alloc (.cells #[.pointer (some ⟨b, 0, none⟩)] 76) = w1 := ⟨_, rfl⟩
  have hb1 : Below w.heap.size w w1 := by rw [← hw1]; exact (Below.refl _ _).alloc (Nat.le_refl _) _
  have HX1 := Lib.hid (show CapAt p0 b w1 from ⟨by rw [← hw1, ← hp0]; exact heap_alloc_new _ _, by rw [← hp0]; exact HLT.out⟩)
  have HO1 := Lib.hid (HO.out.new hb1)
  have HS1 := Lib.hid (HS.out.keep (Keep.of hb1 (Nat.le_of_lt HLT.out)))
  have HB1 := Lib.hid (hb1.mono (Nat.le_of_lt HLT.out))
  have HKK := Lib.hid (Keep.of hb1 (Nat.le_of_lt HLT.out))
  try rw [hw1]
  try rw [hp0]
  rw [hp0] at HC
  clear hw1 hp0 hb1
  have hSw : w1.cell? ⟨p0, 0, none⟩ = some (.pointer (some ⟨b, 0, none⟩)) := HX1.out.cell
  refine wp_region_kindsP [] (fun c w9 => R.1.e ≠ 0 ∧ c = give R.1 ∧ Below b w w9) ?_ (fun wy => wy.cell? ⟨p0, 0, none⟩ = some (.pointer (some ⟨b, 0, none⟩))) [] [6] [0, 1] [2, 3, 4, 5] [0, 1, 2, 3, 4, 5, 6] (by kernel_rfl) (by kernel_rfl) (fun w n h => h) ?_
  · rintro c a w9 hd ⟨he, rfl, hb⟩
    exact ⟨hd, .inr ⟨he, rfl, hb⟩⟩
  repeat (first | (refine wpKind_free (v := ?_) (by rfl) rfl (by rfl) ?_ ?_; rotate_left 1; (focus (intro wy; go_simp; try with_reducible rfl; done)); try simp only [Act.put, List.setIfInBounds_toArray, List.set_cons_zero, List.set_cons_succ]) | (refine wpKind_held (v := ?_) (by rfl) rfl (by rfl) hSw ?_ ?_; rotate_left 1; (focus (intro wy hSy; have s0 : wy.cell? ⟨p0, 0, none⟩ = some (.pointer (some ⟨b, 0, none⟩)) := hSy; go_simp; try with_reducible rfl; done)); try simp only [Act.put, List.setIfInBounds_toArray, List.set_cons_zero, List.set_cons_succ]))
  clear hSw
  refine wpKind_serial (by rfl) rfl (fun n1 => ?_)
  go_wp2_with fail
  refine (HC.out (w1.drewN n1) (HO1.out.drewN n1) (HS1.out.drewN n1) HX1.out).mono ?_
  rintro e w2 (⟨j, x1, hr, hd, rfl, ho, hs, hb, ha⟩ | ⟨he, rfl, hb⟩)
  · have HH := Lib.hid (show ∀ n, GotT B b L x w R (.returned (.tuple #[])) (w2.drewN n) from fun n => .inl ⟨j, x1, hr, hd, rfl, ho.drewN n, hs.drewN n, below_drewN ((below_drewN HB1.out n1).trans hb) n, Apart.pre (fun k h1 h2 h3 => ha k h1 h2 h3) (HKK.out.drewN n1)⟩)
    clear hr hd ho hs hb ha HC
    go_wp2_with fail
    show wpKind _ _ _ _ _ _ _ _ _
    refine wpKind_nilP fun n2 => ?_
    go_wp2_with fail
    go_end0
    exact HH.out n2
  · exact ⟨rfl, he, rfl, (below_drewN HB1.out n1).trans hb⟩
end Go.Proofs.YteonefgbdphmiaaGreatDoor
