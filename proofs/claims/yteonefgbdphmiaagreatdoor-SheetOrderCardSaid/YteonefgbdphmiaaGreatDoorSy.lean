/- A row of numbers in a variable that a closure holds; the walk of sheet.numbers's closure. -/
import Derived.Test.YteonefgbdphmiaaGreatDoorSn
import Derived.Test.YteonefgbdphmiaaGreatDoorLk
namespace Go.Proofs.YteonefgbdphmiaaGreatDoor
open Go.RowKit

theorem info_i64 : (Tryz.prog.info? 2).map (fun i => (i.zero, i.size, i.bytes)) = some (some (.int .i64 0), 1, 8) := by kernel_rfl
/-- Block p is a variable that holds the row of these numbers, at B or behind. -/
def NV (B p : Nat) (l : List Int) (w : World) : Prop := ∃ v, w.heap[p]? = some (.cells #[v] 55 (0, 0)) ∧ Ow ic 1 w B 2 v l
theorem nv_ne {B p : Nat} {l : List Int} {w : World} {v u : Value} (hp : w.heap[p]? = some (.cells #[u] 55 (0, 0))) (ho : Ow ic 1 w B 2 v l) : v.ownBlock ≠ some p := by
  intro h
  rcases ho.2 with ⟨rfl, _⟩ | ⟨g, cap, cur, rfl, _, hg, _⟩
  · cases h
  · have : g = p := by simpa [Value.ownBlock] using h
    subst this
    rw [hg] at hp
    injection hp with hp
    injection hp with _ h2 _
    exact absurd h2 (by decide)
theorem NV.step {B p : Nat} {l l' : List Int} {w0 w w4 : World} {u v v4 : Value} (hp : w.heap[p]? = some (.cells #[u] 55 (0, 0))) (ho : Ow ic 1 w B 2 v l) (h0 : Below B w0 w) (hBw : B ≤ w.heap.size) (hBp : B ≤ p)
    (hg : w.grownBy w4 v.ownBlock) (ho4 : Ow ic 1 w4 B 2 v4 l') : NV B p l' (w4.setCell ⟨p, 0, none⟩ v4) ∧ Below B w0 (w4.setCell ⟨p, 0, none⟩ v4) := by
  have hlt : p < w.heap.size := (Array.getElem?_eq_some_iff.1 hp).1
  have hp4 : w4.heap[p]? = some (.cells #[u] 55 (0, 0)) := (hg.block p hlt (fun h => nv_ne hp ho h.symm)).trans hp
  have hne := nv_ne hp4 ho4
  refine ⟨⟨v4, ?_, ?_⟩, (h0.grown hg hBw fun k hk => (ho.lt hk).1).setCell (p := ⟨p, 0, none⟩) hBp v4⟩
  · simp [World.setCell, Array.getElem?_modify, hp4]
  · exact Ow.kept (row := some p) ho4 ⟨rfl, rfl, rfl, by simp [World.setCell], fun k _ hk => Below.heap_setCell _ _ _ _ (fun e => hk (by simp [e]))⟩ (.inr hne)
theorem nv_at {p : Nat} {w w4 : World} {u v : Value} {l : List Int} {B : Nat} (hp : w.heap[p]? = some (.cells #[u] 55 (0, 0))) (ho : Ow ic 1 w B 2 v l) (hg : w.grownBy w4 v.ownBlock) : w4.cell? ⟨p, 0, none⟩ = some u ∧ w4.frozen? ⟨p, 0, none⟩ = false := by
  have hlt : p < w.heap.size := (Array.getElem?_eq_some_iff.1 hp).1
  have hp4 : w4.heap[p]? = some (.cells #[u] 55 (0, 0)) := (hg.block p hlt (fun h => nv_ne hp ho h.symm)).trans hp
  exact ⟨by rw [Lib.cell_of_heap hp4]; rfl, Lib.frozen_of_heap hp4 0⟩
theorem NV.below {B B' p : Nat} {l : List Int} {w w' : World} (h : NV B p l w) (hb : Below B' w w') (hB : w.heap.size ≤ B') : NV B p l w' := by
  obtain ⟨v, hp, ho⟩ := h
  refine ⟨v, (hb.block p (Nat.lt_of_lt_of_le (Array.getElem?_eq_some_iff.1 hp).1 hB)).trans hp, Ow.below ho hb fun k hk => Nat.lt_of_lt_of_le (ho.lt hk).2 hB⟩
set_option maxHeartbeats 1000000 in
set_option maxRecDepth 100000 in
theorem times1_any (w : World) (B p : Nat) (t : TimesD) (l : List Int) (h : NV B p l w) (hB : B ≤ w.heap.size) (hBp : B ≤ p) (hl : l.length ≤ 10000000) :
    Calls Tryz.prog 78 #[.agg (tc t).toArray, .pointer (some ⟨p, 0, none⟩)] w fun e w' => e = .returned (.tuple #[]) ∧ NV B p (l ++ timesN t) w' ∧ Below B w w' := by
  obtain ⟨i0, hi0, hz0, hz1, hz2⟩ := info_parts info_i64
  obtain ⟨v, hp, ho⟩ := h
  have hlt : p < w.heap.size := (Array.getElem?_eq_some_iff.1 hp).1
  obtain ⟨w1, hw1⟩ : ∃ w1, w.alloc (.cells (tc t).toArray 48) = w1 := ⟨_, rfl⟩
  have hy0 : w1.cell? ⟨w.heap.size, 0, none⟩ = some (.int .i64 t.start) := by rw [← hw1]; exact Lib.cell_of_heap (heap_alloc_new _ _) 0
  have hy1 : w1.cell? ⟨w.heap.size, 1, none⟩ = some (.int .i64 t.every) := by rw [← hw1]; exact Lib.cell_of_heap (heap_alloc_new _ _) 1
  have hy2 : w1.cell? ⟨w.heap.size, 2, none⟩ = some (.int .i64 t.len) := by rw [← hw1]; exact Lib.cell_of_heap (heap_alloc_new _ _) 2
  have hb1 : Below w.heap.size w w1 := by rw [← hw1]; exact (Below.refl _ _).alloc (Nat.le_refl _) _
  have hp1 : w1.heap[p]? = some (.cells #[v] 55 (0, 0)) := (hb1.block p hlt).trans hp
  have hc1 : w1.cell? ⟨p, 0, none⟩ = some v := by rw [Lib.cell_of_heap hp1]; rfl
  have HO1 := Lib.hid (Ow.below ho hb1 fun q hq => (ho.lt hq).2)
  have HP1 := Lib.hid (fun o : Obj => (Below.heap_alloc w1 o p (by have := hb1.size; omega)).trans hp1)
  have HB1 := Lib.hid (show Below B w w1 from hb1.mono hB)
  have HS1 := Lib.hid (Nat.le_trans hB hb1.size)
  unfold tc at hw1
  clear hb1 hp ho hp1
  unfold tc
  go_enter Tryz.func78, Tryz.ntmps78
  go_wp2_with (at_builtin; refine wpList_append_sl _ rfl _ _ _ rfl B 2 i0 _ 8 Tryz.underlying55 hi0 hz0 hz1 hz2 rfl (by omega) ic_len ic_one _ _ l (timesN t) rfl rfl (HO1.out.alloc _) (Sl.newl (timesN t) ic_len rfl rfl (by show 3 ≤ maxLen; decide) rfl) (by simp only [maxLen, timesN, List.length_cons, List.length_nil]; omega) (by simp only [timesN, List.length_cons, List.length_nil]; omega) (by have := HS1.out; simp; omega) ?_; intro v4 w4 hown4 hg4 hmv4; have hcf := nv_at (HP1.out _) (HO1.out.alloc _) hg4; obtain ⟨hc4, hf4⟩ := hcf; obtain ⟨A4, n4, cp4, ev4⟩ := ow_form hown4; subst ev4)
  have hst := NV.step (HP1.out _) (HO1.out.alloc _) (HB1.out.alloc HS1.out _) (by have := HS1.out; simp; omega) hBp hg4 hown4
  have HST := Lib.hid hst
  go_end0
  exact ⟨rfl, HST.out⟩
end Go.Proofs.YteonefgbdphmiaaGreatDoor
/- The walk of sheet.numbers. Printed by wip/bin/gennu.py. -/
namespace Go.Proofs.YteonefgbdphmiaaGreatDoor
open Go.RowKit

def nn0 (x : SheetM) : List Int := [x.hor]
def nn1 (x : SheetM) : List Int := nn0 x ++ x.paths.flatMap (fun p => [p.len])
def nn2 (x : SheetM) : List Int := nn1 x ++ x.doors.flatMap (fun p => [p.len] ++ timesN p.times)
def nn3 (x : SheetM) : List Int := nn2 x ++ x.routes.flatMap (fun r => r.rides ++ r.stays)
def nn4 (x : SheetM) : List Int := nn3 x ++ x.trips.flatMap (fun t => [t.start, t.every, t.stop])
theorem nums_eq (x : SheetM) : nn4 x ++ x.hazs.flatMap (fun h => timesN h.times) = numsD x.d := by
  unfold nn4 nn3 nn2 nn1 nn0 numsD
  rw [show x.d.routes.flatMap (fun r => r.rides ++ r.stays) = x.routes.flatMap (fun r => r.rides ++ r.stays) from by
    show (x.routes.map RouteM.d).flatMap _ = _
    rw [List.flatMap_map]; rfl]
  rfl
theorem nn0_len (x : SheetM) (_ : x.Few) : (nn0 x).length ≤ 1 := Nat.le_refl _
theorem nn1_len (x : SheetM) (h : x.Few) : (nn1 x).length ≤ 1025 := by
  have h1 := nn0_len x h
  have h2 := flat_le (fun p => [p.len]) 1 x.paths (fun _ _ => Nat.le_refl _) 1024 h.paths
  unfold nn1
  rw [List.length_append]
  omega
theorem nn2_len (x : SheetM) (h : x.Few) : (nn2 x).length ≤ 5121 := by
  have h1 := nn1_len x h
  have h2 := flat_le (fun p => [p.len] ++ timesN p.times) 4 x.doors (fun _ _ => Nat.le_refl _) 1024 h.doors
  unfold nn2
  rw [List.length_append]
  omega
theorem nn3_len (x : SheetM) (h : x.Few) : (nn3 x).length ≤ 2053121 := by
  have h1 := nn2_len x h
  have h2 := flat_le (fun r => r.rides ++ r.stays) 2000 x.routes (fun r hr => by have := h.each r hr; rw [List.length_append]; omega) 1024 h.routes
  unfold nn3
  rw [List.length_append]
  omega
theorem nn4_len (x : SheetM) (h : x.Few) : (nn4 x).length ≤ 2056193 := by
  have h1 := nn3_len x h
  have h2 := flat_le (fun t => [t.start, t.every, t.stop]) 3 x.trips (fun _ _ => Nat.le_refl _) 1024 h.trips
  unfold nn4
  rw [List.length_append]
  omega
set_option maxHeartbeats 4000000 in
set_option maxRecDepth 100000 in
theorem numbers_any (w : World) (x : SheetM) {P : Nat → Prop} (hg : x.Good w P) (hf : x.Few) :
    Calls Tryz.prog 49 #[x.v] w (Made ic 1 2 (numsD x.d) w) := by
  obtain ⟨i0, hi0, hz0, hz1, hz2⟩ := info_parts info_i64
  obtain ⟨w1, hw1⟩ : ∃ w1, w.alloc (.cells x.c.toArray 29) = w1 := ⟨_, rfl⟩
  have hs1 : w1.heap.size = w.heap.size + 1 := by rw [← hw1]; simp
  have hS1 : SheetAt w.heap.size x w1 := by rw [← hw1]; exact SheetAt.of (heap_alloc_new _ _)
  have hb1 : Below w.heap.size w w1 := by rw [← hw1]; exact (Below.refl _ _).alloc (Nat.le_refl _) _
  obtain ⟨w2, hw2⟩ : ∃ w2, w1.alloc (.cells #[.int .i64 x.hor] 2) = w2 := ⟨_, rfl⟩
  have hs2 : w2.heap.size = w.heap.size + 2 := by rw [← hw2]; simp; omega
  have ho2 : Ow ic 1 w2 (w.heap.size + 1) 2 (.slice (some ⟨w.heap.size + 1, 0, none⟩) 1 1) [x.hor] := by
    rw [← hw2]; exact Ow.newl [x.hor] ic_len rfl rfl (by show 1 ≤ maxLen; decide) hs1 (Nat.le_refl _)
  have hb2 : Below (w.heap.size + 1) w1 w2 := by rw [← hw2]; exact (Below.refl _ _).alloc (by omega) _
  obtain ⟨w3, hw3⟩ : ∃ w3, w2.alloc (.cells #[.slice (some ⟨w.heap.size + 1, 0, none⟩) 1 1] 55) = w3 := ⟨_, rfl⟩
  have hb3 : Below (w.heap.size + 1) w2 w3 := by rw [← hw3]; exact (Below.refl _ _).alloc (by omega) _
  have hn3 : NV (w.heap.size + 1) (w.heap.size + 2) (nn0 x) w3 := ⟨_, by rw [← hw3, ← hs2]; exact heap_alloc_new _ _, by rw [← hw3]; exact ho2.alloc _⟩
  have hB : Below (w.heap.size + 1) w1 w3 := hb2.trans hb3
  have HB1 := Lib.hid hb1
  have HG1 := Lib.hid (hg.below_ hb1)
  have HS1 := Lib.hid hS1
  have HF := Lib.hid hf
  have HZ := Lib.hid hs1
  obtain ⟨As, cs, es, _, _⟩ := hg.stops.shape
  obtain ⟨Ap, cp, ep, _, _⟩ := hg.paths.shape
  obtain ⟨Ad, cd, ed, _, _⟩ := hg.doors.shape
  obtain ⟨Ar, cr, er, _, _⟩ := hg.routes.shape
  obtain ⟨At, ct, et, _, _⟩ := hg.trips.shape
  obtain ⟨Ah, ch, eh, _, _⟩ := hg.hazs.shape
  have n1 := hf.paths
  have n2 := hf.doors
  have n3 := hf.routes
  have n4 := hf.trips
  have n5 := hf.hazs
  have cells : ∀ wx, SheetAt w.heap.size x wx → wx.cell? ⟨w.heap.size, 0, none⟩ = some (.int .i64 x.hor) ∧ wx.cell? ⟨w.heap.size, 2, none⟩ = some (.slice Ap x.paths.length cp) ∧ wx.cell? ⟨w.heap.size, 3, none⟩ = some (.slice Ad x.doors.length cd) ∧ wx.cell? ⟨w.heap.size, 4, none⟩ = some (.slice Ar x.routes.length cr) ∧ wx.cell? ⟨w.heap.size, 5, none⟩ = some (.slice At x.trips.length ct) ∧ wx.cell? ⟨w.heap.size, 6, none⟩ = some (.slice Ah x.hazs.length ch) := by
    rintro wx ⟨s0, s1, s2, s3, s4, s5, s6⟩
    rw [ep] at s2
    rw [ed] at s3
    rw [er] at s4
    rw [et] at s5
    rw [eh] at s6
    exact ⟨s0, s2, s3, s4, s5, s6⟩
  have CELLS := Lib.hid cells
  have HEP := Lib.hid ep
  have HED := Lib.hid ed
  have HER := Lib.hid er
  have HET := Lib.hid et
  have HEH := Lib.hid eh
  unfold SheetM.v
  unfold SheetM.c at hw1
  rw [es, ep, ed, er, et, eh] at hw1
  rw [es, ep, ed, er, et, eh]
  obtain ⟨c0, c2, c3, c4, c5, c6⟩ := cells w1 hS1
  obtain ⟨d0, d2, d3, d4, d5, d6⟩ := cells w3 (hS1.below hB (Nat.lt_succ_self _))
  have HN := Lib.hid hn3
  have HBB := Lib.hid hB
  clear es ep ed er et eh hS1 hb1 hb2 hb3 hf hg cells ho2 hn3 hB
  go_enter Tryz.func49, Tryz.ntmps49
  go_upto_region 3 with fail
  clear hw1 hw2 hw3 c0 c2 c3 c4 c5 c6 hs1 hs2
  generalize w3 = wr at *
  have hN := HN.out
  have hB := HBB.out
  clear HN HBB
  have HN0 := Lib.hid hN
  have HB0 := Lib.hid hB
  have nl := nn0_len x HF.out
  clear hN hB
  go_wp2_with fail
  clear d0 d2 d3 d4 d5 d6
  go_loopg [22] x.paths.length (fun gg s wx => ∃ k : Nat, k ≤ x.paths.length ∧ x.paths.length - k ≤ gg ∧ s = .int .i64 k ∧ NV (w.heap.size + 1) (w.heap.size + 2) (nn0 x ++ (x.paths.take k).flatMap (fun p => [p.len])) wx ∧ Below (w.heap.size + 1) w1 wx)
  case atStart => exact ⟨0, Nat.zero_le _, by omega, rfl, by rw [List.take_zero, List.flatMap_nil, List.append_nil]; exact HN0.out, HB0.out⟩
  case round =>
    clear HN0 HB0
    obtain ⟨k, hk, hgg, rfl, hN, hb⟩ := hrel
    by_cases hlt : k < x.paths.length
    · have hst := HG1.out.paths.keep hb.size fun b hb1 _ => hb.block b (by have := HZ.out; omega)
      rw [HEP.out] at hst
      obtain ⟨b1, o1, p1, e1, _, _, hl1, _, hxx⟩ := hst.at_ hlt
      injection e1 with e1 e2 e3
      subst e1
      obtain ⟨y, hye⟩ : ∃ y, x.paths[k] = y := ⟨_, rfl⟩
      rw [hye] at hxx
      have hx0 : wr.cell? ⟨b1, o1 + k * 4, none⟩ = some (.string (ba y.name)) := by simpa using hxx 0 _ rfl
      have hx1 : wr.cell? ⟨b1, o1 + k * 4 + 1, none⟩ = some (.string (ba y.a)) := by simpa using hxx 1 _ rfl
      have hx2 : wr.cell? ⟨b1, o1 + k * 4 + 2, none⟩ = some (.string (ba y.b)) := by simpa using hxx 2 _ rfl
      have hx3 : wr.cell? ⟨b1, o1 + k * 4 + 3, none⟩ = some (.int .i64 y.len) := by simpa using hxx 3 _ rfl
      have HSZ := Lib.hid (show w.heap.size + 1 ≤ wr.heap.size by have := hb.size; have := HZ.out; omega)
      obtain ⟨wy, hwy⟩ : ∃ wy, wr.alloc (.cells (pc y).toArray 61) = wy := ⟨_, rfl⟩
      have hy0 : wy.cell? ⟨wr.heap.size, 0, none⟩ = some (.string (ba y.name)) := by rw [← hwy]; exact Lib.cell_of_heap (heap_alloc_new _ _) 0
      have hy1 : wy.cell? ⟨wr.heap.size, 1, none⟩ = some (.string (ba y.a)) := by rw [← hwy]; exact Lib.cell_of_heap (heap_alloc_new _ _) 1
      have hy2 : wy.cell? ⟨wr.heap.size, 2, none⟩ = some (.string (ba y.b)) := by rw [← hwy]; exact Lib.cell_of_heap (heap_alloc_new _ _) 2
      have hy3 : wy.cell? ⟨wr.heap.size, 3, none⟩ = some (.int .i64 y.len) := by rw [← hwy]; exact Lib.cell_of_heap (heap_alloc_new _ _) 3
      have hby : Below wr.heap.size wr wy := by rw [← hwy]; exact (Below.refl _ _).alloc (Nat.le_refl _) _
      have HBY := Lib.hid (hb.trans (hby.mono HSZ.out))
      obtain ⟨v, hp, ho⟩ := hN
      have hpl : w.heap.size + 2 < wr.heap.size := (Array.getElem?_eq_some_iff.1 hp).1
      have hpy : wy.heap[w.heap.size + 2]? = some (.cells #[v] 55 (0, 0)) := (hby.block _ hpl).trans hp
      have hoy := Ow.below ho hby fun q hq => (ho.lt hq).2
      have HGL := Lib.hid (fun q hq => (ho.lt (k := q) hq).2)
      have hcy : wy.cell? ⟨w.heap.size + 2, 0, none⟩ = some v := by rw [Lib.cell_of_heap hpy]; rfl
      have HOY := Lib.hid hoy
      have HPY := Lib.hid (fun o : Obj => (Below.heap_alloc wy o (w.heap.size + 2) (by have := hby.size; omega)).trans hpy)
      have HSY := Lib.hid (Nat.le_trans HSZ.out hby.size)
      have E := Lib.hid (show nn0 x ++ (x.paths.take (k + 1)).flatMap (fun p => [p.len]) = (nn0 x ++ (x.paths.take k).flatMap (fun p => [p.len])) ++ [y.len] by rw [take_flat_succ _ _ _ hlt, hye, List.append_assoc])
      have hlen : (nn0 x ++ (x.paths.take k).flatMap (fun p => [p.len])).length ≤ 1025 := by
        rw [List.length_append]
        have := flat_le (fun p => [p.len]) 1 (x.paths.take k) (fun _ _ => Nat.le_refl _) 1024 (by rw [List.length_take]; omega)
        omega
      have q1 : (0 : Int) ≤ (k : Int) := by omega
      have q2 : (k : Int) < (x.paths.length : Int) := by omega
      have hlb : wr.heap.size < wy.heap.size := by rw [← hwy]; simp
      unfold pc at hwy
      have HYE := Lib.hid hye
      have HPL := Lib.hid hpl
      have HPYY := Lib.hid hpy
      clear hp ho hb e2 e3 hxx hst hby hye hoy hpl hpy
      go_wp2_with (at_builtin; refine wpList_append_sl _ rfl _ _ _ rfl (w.heap.size + 1) 2 i0 _ 8 Tryz.underlying55 hi0 hz0 hz1 hz2 rfl (by omega) ic_len ic_one _ _ (nn0 x ++ (x.paths.take k).flatMap (fun p => [p.len])) [y.len] rfl rfl (HOY.out.alloc _) (Sl.newl [y.len] ic_len rfl rfl (by show 1 ≤ maxLen; decide) rfl) (by simp only [maxLen, List.length_cons, List.length_nil]; omega) (by simp only [List.length_cons, List.length_nil]; omega) (by have := HSY.out; simp; omega) ?_; intro v4 w4 hown4 hg4 hmv4; have hcf := nv_at (HPY.out _) (HOY.out.alloc _) hg4; obtain ⟨hc4, hf4⟩ := hcf; obtain ⟨A4, n4, cp4, ev4⟩ := ow_form hown4; subst ev4)
      have hst := NV.step (HPY.out _) (HOY.out.alloc _) (HBY.out.alloc HSY.out _) (by have := HSY.out; simp; omega) (Nat.le_succ _) hg4 hown4
      have HST := Lib.hid hst
      clear hst
      go_roundg (x.paths.length - (k + 1))
      case measure => omega
      case rel => exact ⟨k + 1, by omega, by omega, by go_num, by rw [E.out]; exact HST.out.1, HST.out.2⟩
    · have hke : k = x.paths.length := by omega
      subst hke
      rw [List.take_length] at hN
      replace hN : NV (w.heap.size + 1) (w.heap.size + 2) (nn1 x) wr := hN
      have hB := hb
      clear hb hlt hk hgg nl
      have HN1 := Lib.hid hN
      have HB1 := Lib.hid hB
      have nl := nn1_len x HF.out
      clear hN hB
      obtain ⟨d0, d2, d3, d4, d5, d6⟩ := CELLS.out wr (HS1.out.below HB1.out (Nat.lt_succ_self _))
      go_wp2_with fail
      clear d0 d2 d3 d4 d5 d6
      go_loopg [35] x.doors.length (fun gg s wx => ∃ k : Nat, k ≤ x.doors.length ∧ x.doors.length - k ≤ gg ∧ s = .int .i64 k ∧ NV (w.heap.size + 1) (w.heap.size + 2) (nn1 x ++ (x.doors.take k).flatMap (fun p => [p.len] ++ timesN p.times)) wx ∧ Below (w.heap.size + 1) w1 wx)
      case atStart => exact ⟨0, Nat.zero_le _, by omega, rfl, by rw [List.take_zero, List.flatMap_nil, List.append_nil]; exact HN1.out, HB1.out⟩
      case round =>
        clear HN1 HB1
        obtain ⟨k, hk, hgg, rfl, hN, hb⟩ := hrel
        by_cases hlt : k < x.doors.length
        · have hst := HG1.out.doors.keep hb.size fun b hb1 _ => hb.block b (by have := HZ.out; omega)
          rw [HED.out] at hst
          obtain ⟨b1, o1, p1, e1, _, _, hl1, _, hxx⟩ := hst.at_ hlt
          injection e1 with e1 e2 e3
          subst e1
          obtain ⟨y, hye⟩ : ∃ y, x.doors[k] = y := ⟨_, rfl⟩
          rw [hye] at hxx
          have hx0 : wr.cell? ⟨b1, o1 + k * 7, none⟩ = some (.string (ba y.name)) := by simpa using hxx 0 _ rfl
          have hx1 : wr.cell? ⟨b1, o1 + k * 7 + 1, none⟩ = some (.string (ba y.a)) := by simpa using hxx 1 _ rfl
          have hx2 : wr.cell? ⟨b1, o1 + k * 7 + 2, none⟩ = some (.string (ba y.b)) := by simpa using hxx 2 _ rfl
          have hx3 : wr.cell? ⟨b1, o1 + k * 7 + 3, none⟩ = some (.int .i64 y.len) := by simpa using hxx 3 _ rfl
          have hx4 : wr.cell? ⟨b1, o1 + k * 7 + 4, none⟩ = some (.int .i64 y.times.start) := by simpa using hxx 4 _ rfl
          have hx5 : wr.cell? ⟨b1, o1 + k * 7 + 5, none⟩ = some (.int .i64 y.times.every) := by simpa using hxx 5 _ rfl
          have hx6 : wr.cell? ⟨b1, o1 + k * 7 + 6, none⟩ = some (.int .i64 y.times.len) := by simpa using hxx 6 _ rfl
          have HSZ := Lib.hid (show w.heap.size + 1 ≤ wr.heap.size by have := hb.size; have := HZ.out; omega)
          obtain ⟨wy, hwy⟩ : ∃ wy, wr.alloc (.cells (dc y).toArray 50) = wy := ⟨_, rfl⟩
          have hy0 : wy.cell? ⟨wr.heap.size, 0, none⟩ = some (.string (ba y.name)) := by rw [← hwy]; exact Lib.cell_of_heap (heap_alloc_new _ _) 0
          have hy1 : wy.cell? ⟨wr.heap.size, 1, none⟩ = some (.string (ba y.a)) := by rw [← hwy]; exact Lib.cell_of_heap (heap_alloc_new _ _) 1
          have hy2 : wy.cell? ⟨wr.heap.size, 2, none⟩ = some (.string (ba y.b)) := by rw [← hwy]; exact Lib.cell_of_heap (heap_alloc_new _ _) 2
          have hy3 : wy.cell? ⟨wr.heap.size, 3, none⟩ = some (.int .i64 y.len) := by rw [← hwy]; exact Lib.cell_of_heap (heap_alloc_new _ _) 3
          have hy4 : wy.cell? ⟨wr.heap.size, 4, none⟩ = some (.int .i64 y.times.start) := by rw [← hwy]; exact Lib.cell_of_heap (heap_alloc_new _ _) 4
          have hy5 : wy.cell? ⟨wr.heap.size, 5, none⟩ = some (.int .i64 y.times.every) := by rw [← hwy]; exact Lib.cell_of_heap (heap_alloc_new _ _) 5
          have hy6 : wy.cell? ⟨wr.heap.size, 6, none⟩ = some (.int .i64 y.times.len) := by rw [← hwy]; exact Lib.cell_of_heap (heap_alloc_new _ _) 6
          have hby : Below wr.heap.size wr wy := by rw [← hwy]; exact (Below.refl _ _).alloc (Nat.le_refl _) _
          have HBY := Lib.hid (hb.trans (hby.mono HSZ.out))
          obtain ⟨v, hp, ho⟩ := hN
          have hpl : w.heap.size + 2 < wr.heap.size := (Array.getElem?_eq_some_iff.1 hp).1
          have hpy : wy.heap[w.heap.size + 2]? = some (.cells #[v] 55 (0, 0)) := (hby.block _ hpl).trans hp
          have hoy := Ow.below ho hby fun q hq => (ho.lt hq).2
          have HGL := Lib.hid (fun q hq => (ho.lt (k := q) hq).2)
          have hcy : wy.cell? ⟨w.heap.size + 2, 0, none⟩ = some v := by rw [Lib.cell_of_heap hpy]; rfl
          have HOY := Lib.hid hoy
          have HPY := Lib.hid (fun o : Obj => (Below.heap_alloc wy o (w.heap.size + 2) (by have := hby.size; omega)).trans hpy)
          have HSY := Lib.hid (Nat.le_trans HSZ.out hby.size)
          have E := Lib.hid (show nn1 x ++ (x.doors.take (k + 1)).flatMap (fun p => [p.len] ++ timesN p.times) = (nn1 x ++ (x.doors.take k).flatMap (fun p => [p.len] ++ timesN p.times)) ++ ([y.len] ++ timesN y.times) by rw [take_flat_succ _ _ _ hlt, hye, List.append_assoc])
          have hlen : (nn1 x ++ (x.doors.take k).flatMap (fun p => [p.len] ++ timesN p.times)).length ≤ 5121 := by
            rw [List.length_append]
            have := flat_le (fun p => [p.len] ++ timesN p.times) 4 (x.doors.take k) (fun _ _ => Nat.le_refl _) 1024 (by rw [List.length_take]; omega)
            omega
          have q1 : (0 : Int) ≤ (k : Int) := by omega
          have q2 : (k : Int) < (x.doors.length : Int) := by omega
          have hlb : wr.heap.size < wy.heap.size := by rw [← hwy]; simp
          unfold dc at hwy
          have HYE := Lib.hid hye
          have HPL := Lib.hid hpl
          have HPYY := Lib.hid hpy
          clear hp ho hb e2 e3 hxx hst hby hye hoy hpl hpy
          go_upto_region 12 with (at_builtin; refine wpList_append_sl _ rfl _ _ _ rfl (w.heap.size + 1) 2 i0 _ 8 Tryz.underlying55 hi0 hz0 hz1 hz2 rfl (by omega) ic_len ic_one _ _ (nn1 x ++ (x.doors.take k).flatMap (fun p => [p.len] ++ timesN p.times)) [y.len] rfl rfl (HOY.out.alloc _) (Sl.newl [y.len] ic_len rfl rfl (by show 1 ≤ maxLen; decide) rfl) (by simp only [maxLen, List.length_cons, List.length_nil]; omega) (by simp only [List.length_cons, List.length_nil]; omega) (by have := HSY.out; simp; omega) ?_; intro v4 w4 hown4 hg4 hmv4; have hcf := nv_at (HPY.out _) (HOY.out.alloc _) hg4; obtain ⟨hc4, hf4⟩ := hcf; obtain ⟨A4, n4, cp4, ev4⟩ := ow_form hown4; subst ev4)
          have hst := NV.step (HPY.out _) (HOY.out.alloc _) (HBY.out.alloc HSY.out _) (by have := HSY.out; simp; omega) (Nat.le_succ _) hg4 hown4
          have hblk : (w4.setCell ⟨w.heap.size + 2, 0, none⟩ (.slice A4 n4 cp4)).heap[wr.heap.size]? = wy.heap[wr.heap.size]? := by
            rw [Below.heap_setCell w4 ⟨w.heap.size + 2, 0, none⟩ _ _ (by have := HPL.out; show wr.heap.size ≠ w.heap.size + 2; omega), hg4.block wr.heap.size (by simp; omega) (fun h => absurd (HGL.out _ h.symm) (Nat.lt_irrefl _))]
            exact Below.heap_alloc wy _ _ hlb
          have hz : ∀ i : Nat, (w4.setCell ⟨w.heap.size + 2, 0, none⟩ (.slice A4 n4 cp4)).cell? ⟨wr.heap.size, i, none⟩ = wy.cell? ⟨wr.heap.size, i, none⟩ := fun i => World.cell?_of_block (a := ⟨wr.heap.size, i, none⟩) hblk
          have hz4 := (hz 4).trans hy4
          have hz5 := (hz 5).trans hy5
          have hz6 := (hz 6).trans hy6
          have HST := Lib.hid hst
          clear hst hg4 hown4 hc4 hf4 hmv4 hblk hz hx0 hx1 hx2 hx3 hx4 hx5 hx6 hy0 hy1 hy2 hy3 hy4 hy5 hy6 hcy hwy
          generalize w4.setCell ⟨w.heap.size + 2, 0, none⟩ (.slice A4 n4 cp4) = wq at *
          go_wp2_with fail
          refine (times1_any wq (w.heap.size + 1) (w.heap.size + 2) y.times _ HST.out.1 (by have := HST.out.2.size; have := HZ.out; omega) (Nat.le_succ _) (by simp only [List.length_append, List.length_cons, List.length_nil] at *; omega)).mono ?_
          rintro e w6 ⟨rfl, hN6, hb6⟩
          have HN6 := Lib.hid hN6
          have HB6 := Lib.hid (HST.out.2.trans hb6)
          clear hN6 hb6
          go_wp2_with fail
          go_roundg (x.doors.length - (k + 1))
          case measure => omega
          case rel => exact ⟨k + 1, by omega, by omega, by go_num, by rw [E.out, ← List.append_assoc]; exact HN6.out, HB6.out⟩
        · have hke : k = x.doors.length := by omega
          subst hke
          rw [List.take_length] at hN
          replace hN : NV (w.heap.size + 1) (w.heap.size + 2) (nn2 x) wr := hN
          have hB := hb
          clear hb hlt hk hgg nl
          have HN2 := Lib.hid hN
          have HB2 := Lib.hid hB
          have nl := nn2_len x HF.out
          clear hN hB
          obtain ⟨d0, d2, d3, d4, d5, d6⟩ := CELLS.out wr (HS1.out.below HB2.out (Nat.lt_succ_self _))
          go_wp2_with fail
          clear d0 d2 d3 d4 d5 d6
          go_loopg [52] x.routes.length (fun gg s wx => ∃ k : Nat, k ≤ x.routes.length ∧ x.routes.length - k ≤ gg ∧ s = .int .i64 k ∧ NV (w.heap.size + 1) (w.heap.size + 2) (nn2 x ++ (x.routes.take k).flatMap (fun r => r.rides ++ r.stays)) wx ∧ Below (w.heap.size + 1) w1 wx)
          case atStart => exact ⟨0, Nat.zero_le _, by omega, rfl, by rw [List.take_zero, List.flatMap_nil, List.append_nil]; exact HN2.out, HB2.out⟩
          case round =>
            clear HN2 HB2
            obtain ⟨k, hk, hgg, rfl, hN, hb⟩ := hrel
            by_cases hlt : k < x.routes.length
            · have hst := HG1.out.routes.keep hb.size fun b hb1 _ => hb.block b (by have := HZ.out; omega)
              rw [HER.out] at hst
              obtain ⟨b1, o1, p1, e1, _, _, hl1, _, hxx⟩ := hst.at_ hlt
              injection e1 with e1 e2 e3
              subst e1
              obtain ⟨y, hye⟩ : ∃ y, x.routes[k] = y := ⟨_, rfl⟩
              rw [hye] at hxx
              have hx0 : wr.cell? ⟨b1, o1 + k * 4, none⟩ = some (.string (ba y.name)) := by simpa using hxx 0 _ rfl
              have hx1 : wr.cell? ⟨b1, o1 + k * 4 + 1, none⟩ = some (y.vs) := by simpa using hxx 1 _ rfl
              have hx2 : wr.cell? ⟨b1, o1 + k * 4 + 2, none⟩ = some (y.vr) := by simpa using hxx 2 _ rfl
              have hx3 : wr.cell? ⟨b1, o1 + k * 4 + 3, none⟩ = some (y.vy) := by simpa using hxx 3 _ rfl
              have HSZ := Lib.hid (show w.heap.size + 1 ≤ wr.heap.size by have := hb.size; have := HZ.out; omega)
              obtain ⟨wy, hwy⟩ : ∃ wy, wr.alloc (.cells (rc y).toArray 57) = wy := ⟨_, rfl⟩
              have hy0 : wy.cell? ⟨wr.heap.size, 0, none⟩ = some (.string (ba y.name)) := by rw [← hwy]; exact Lib.cell_of_heap (heap_alloc_new _ _) 0
              have hy1 : wy.cell? ⟨wr.heap.size, 1, none⟩ = some (y.vs) := by rw [← hwy]; exact Lib.cell_of_heap (heap_alloc_new _ _) 1
              have hy2 : wy.cell? ⟨wr.heap.size, 2, none⟩ = some (y.vr) := by rw [← hwy]; exact Lib.cell_of_heap (heap_alloc_new _ _) 2
              have hy3 : wy.cell? ⟨wr.heap.size, 3, none⟩ = some (y.vy) := by rw [← hwy]; exact Lib.cell_of_heap (heap_alloc_new _ _) 3
              have hgy := HG1.out.each y (by rw [← hye]; exact List.getElem_mem hlt)
              obtain ⟨Ax1, cx1, ex1, _, _⟩ := hgy.stops.shape
              obtain ⟨Ax2, cx2, ex2, _, _⟩ := hgy.rides.shape
              obtain ⟨Ax3, cx3, ex3, _, _⟩ := hgy.stays.shape
              have HY2 := Lib.hid ex2
              have HY3 := Lib.hid ex3
              have HGY2 := Lib.hid hgy.rides
              have HGY3 := Lib.hid hgy.stays
              rw [ex1] at hx1 hy1
              rw [ex2] at hx2 hy2
              rw [ex3] at hx3 hy3
              have hby : Below wr.heap.size wr wy := by rw [← hwy]; exact (Below.refl _ _).alloc (Nat.le_refl _) _
              have HBY := Lib.hid (hb.trans (hby.mono HSZ.out))
              obtain ⟨v, hp, ho⟩ := hN
              have hpl : w.heap.size + 2 < wr.heap.size := (Array.getElem?_eq_some_iff.1 hp).1
              have hpy : wy.heap[w.heap.size + 2]? = some (.cells #[v] 55 (0, 0)) := (hby.block _ hpl).trans hp
              have hoy := Ow.below ho hby fun q hq => (ho.lt hq).2
              have HGL := Lib.hid (fun q hq => (ho.lt (k := q) hq).2)
              have hcy : wy.cell? ⟨w.heap.size + 2, 0, none⟩ = some v := by rw [Lib.cell_of_heap hpy]; rfl
              have HOY := Lib.hid hoy
              have HPY := Lib.hid (fun o : Obj => (Below.heap_alloc wy o (w.heap.size + 2) (by have := hby.size; omega)).trans hpy)
              have HSY := Lib.hid (Nat.le_trans HSZ.out hby.size)
              have E := Lib.hid (show nn2 x ++ (x.routes.take (k + 1)).flatMap (fun r => r.rides ++ r.stays) = (nn2 x ++ (x.routes.take k).flatMap (fun r => r.rides ++ r.stays)) ++ (y.rides ++ y.stays) by rw [take_flat_succ _ _ _ hlt, hye, List.append_assoc])
              have hlen : (nn2 x ++ (x.routes.take k).flatMap (fun r => r.rides ++ r.stays)).length ≤ 2053121 := by
                rw [List.length_append]
                have := flat_le (fun r => r.rides ++ r.stays) 2000 (x.routes.take k) (fun r hr => by have := HF.out.each r (List.mem_of_mem_take hr); rw [List.length_append]; omega) 1024 (by rw [List.length_take]; omega)
                omega
              have q1 : (0 : Int) ≤ (k : Int) := by omega
              have q2 : (k : Int) < (x.routes.length : Int) := by omega
              have hlb : wr.heap.size < wy.heap.size := by rw [← hwy]; simp
              unfold rc at hwy
              rw [ex1, ex2, ex3] at hwy
              have HYE := Lib.hid hye
              have HPL := Lib.hid hpl
              have HPYY := Lib.hid hpy
              clear hp ho hb e2 e3 hxx hst hby hye hoy hpl hpy
              have HR2 := Lib.hid (show Sl ic 1 wy (.slice Ax2 y.rides.length cx2) y.rides P by rw [← HY2.out]; exact HGY2.out.keep HBY.out.size fun b hb1 _ => HBY.out.block b (by have := HZ.out; omega))
              clear ex1 ex2 ex3
              go_upto_region 17 with fail
              have hSw := And.intro hcy (And.intro hy2 hy3)
              have hyl := HF.out.each y (by rw [← HYE.out]; exact List.getElem_mem hlt)
              clear hwy hx0 hx1 hx2 hx3 hy0 hy1 hy2 hy3 hcy
              refine wp_region_kinds (fun w' => w'.cell? ⟨w.heap.size + 2, 0, none⟩ = some v ∧ w'.cell? ⟨wr.heap.size, 2, none⟩ = some (.slice Ax2 y.rides.length cx2) ∧ w'.cell? ⟨wr.heap.size, 3, none⟩ = some (.slice Ax3 y.stays.length cx3)) [3] [6, 7] [0, 2, 5] [1, 4] [0, 1, 2, 4, 5, 3, 6, 7] (by kernel_rfl) (by kernel_rfl) (fun w n h => h) ?_
              repeat (first | (refine wpKind_free (v := ?_) (by rfl) rfl (by rfl) ?_ ?_; rotate_left 1; (focus (intro wy; go_simp; try with_reducible rfl; done)); try simp only [Act.put, List.setIfInBounds_toArray, List.set_cons_zero, List.set_cons_succ]) | (refine wpKind_held (v := ?_) (by rfl) rfl (by rfl) hSw ?_ ?_; rotate_left 1; (focus (intro wy hSy; obtain ⟨s0, s1, s2⟩ := hSy; go_simp; try with_reducible rfl; done)); try simp only [Act.put, List.setIfInBounds_toArray, List.set_cons_zero, List.set_cons_succ]))
              refine wpKind_keeps (by rfl) rfl (fun n1 => ?_)
              go_wp2_with (at_builtin; refine wpList_append_sl _ rfl _ _ _ rfl (w.heap.size + 1) 2 i0 _ 8 Tryz.underlying55 hi0 hz0 hz1 hz2 rfl (by omega) ic_len ic_one _ _ (nn2 x ++ (x.routes.take k).flatMap (fun r => r.rides ++ r.stays)) y.rides rfl rfl (HOY.out.drewN n1) (HR2.out.drewN n1) (by simp only [maxLen]; omega) (by omega) HSY.out ?_; intro v4 w4 hown4 hg4 hmv4)
              show _ ∧ _
              have hB4 : Below (w.heap.size + 1) w1 w4 := (below_drewN HBY.out n1).grown hg4 HSY.out fun q hq => ((HOY.out.drewN n1).lt hq).1
              have hblk := hg4.block wr.heap.size hlb (fun h => absurd (HGL.out _ h.symm) (Nat.lt_irrefl _))
              have hz : ∀ i : Nat, w4.cell? ⟨wr.heap.size, i, none⟩ = wy.cell? ⟨wr.heap.size, i, none⟩ := fun i => World.cell?_of_block (a := ⟨wr.heap.size, i, none⟩) hblk
              have hcf := nv_at (w := wy.drewN n1) HPYY.out (HOY.out.drewN n1) hg4
              have hp4 : w4.heap[w.heap.size + 2]? = some (.cells #[v] 55 (0, 0)) := (hg4.block _ (by have := HPL.out; show _ < wy.heap.size; omega) (fun h => nv_ne HPYY.out HOY.out h.symm)).trans HPYY.out
              refine ⟨⟨hcf.1, (hz 2).trans hSw.2.1, (hz 3).trans hSw.2.2⟩, ?_⟩
              have HB4 := Lib.hid hB4
              have HO4 := Lib.hid hown4
              have HP4 := Lib.hid hp4
              have HS4 := Lib.hid (show w.heap.size + 1 ≤ w4.heap.size by have := hB4.size; have := HZ.out; omega)
              have HR3 := Lib.hid (show Sl ic 1 w4 (.slice Ax3 y.stays.length cx3) y.stays P by rw [← HY3.out]; exact HGY3.out.keep hB4.size fun b hb1 _ => hB4.block b (by have := HZ.out; omega))
              clear hB4 hblk hz hcf hp4 hSw hg4 hown4 hmv4
              refine wpKind_serial (by rfl) rfl (fun n2 => ?_)
              go_wp2_with (at_builtin; refine wpList_append_sl _ rfl _ _ _ rfl (w.heap.size + 1) 2 i0 _ 8 Tryz.underlying55 hi0 hz0 hz1 hz2 rfl (by omega) ic_len ic_one _ _ ((nn2 x ++ (x.routes.take k).flatMap (fun r => r.rides ++ r.stays)) ++ y.rides) y.stays rfl rfl (HO4.out.drewN n2) (HR3.out.drewN n2) (by simp only [maxLen, List.length_append] at *; omega) (by simp only [List.length_append] at *; omega) HS4.out ?_; intro v5 w5 hown5 hg5 hmv5)
              have hcf := nv_at (w := w4.drewN n2) HP4.out (HO4.out.drewN n2) hg5
              have hst := NV.step (w := w4.drewN n2) HP4.out (HO4.out.drewN n2) (below_drewN HB4.out n2) HS4.out (Nat.le_succ _) hg5 hown5
              obtain ⟨A5, n5, cp5, ev5⟩ := ow_form hown5
              subst ev5
              obtain ⟨hc5, hf5⟩ := hcf
              have HST := Lib.hid hst
              clear hst hg5 hown5 hmv5
              refine wpKind_serial (by rfl) rfl (fun n3 => ?_)
              have hc6 : (w5.drewN n3).cell? ⟨w.heap.size + 2, 0, none⟩ = some v := hc5
              have hf6 : (w5.drewN n3).frozen? ⟨w.heap.size + 2, 0, none⟩ = false := hf5
              go_wp2_with fail
              show wpKind _ _ _ _ _ _ _ _ _
              refine wpKind_nil fun n6 => ?_
              go_wp2_with fail
              go_roundg (x.routes.length - (k + 1))
              case measure => omega
              case rel => exact ⟨k + 1, by omega, by omega, by go_num, by rw [E.out, ← List.append_assoc]; exact HST.out.1, below_drewN (n := n6) (show Below _ w1 ((w5.drewN n3).setCell _ _) from below_drewN HST.out.2 n3)⟩
            · have hke : k = x.routes.length := by omega
              subst hke
              rw [List.take_length] at hN
              replace hN : NV (w.heap.size + 1) (w.heap.size + 2) (nn3 x) wr := hN
              have hB := hb
              clear hb hlt hk hgg nl
              have HN3 := Lib.hid hN
              have HB3 := Lib.hid hB
              have nl := nn3_len x HF.out
              clear hN hB
              obtain ⟨d0, d2, d3, d4, d5, d6⟩ := CELLS.out wr (HS1.out.below HB3.out (Nat.lt_succ_self _))
              go_wp2_with fail
              clear d0 d2 d3 d4 d5 d6
              go_loopg [67] x.trips.length (fun gg s wx => ∃ k : Nat, k ≤ x.trips.length ∧ x.trips.length - k ≤ gg ∧ s = .int .i64 k ∧ NV (w.heap.size + 1) (w.heap.size + 2) (nn3 x ++ (x.trips.take k).flatMap (fun t => [t.start, t.every, t.stop])) wx ∧ Below (w.heap.size + 1) w1 wx)
              case atStart => exact ⟨0, Nat.zero_le _, by omega, rfl, by rw [List.take_zero, List.flatMap_nil, List.append_nil]; exact HN3.out, HB3.out⟩
              case round =>
                clear HN3 HB3
                obtain ⟨k, hk, hgg, rfl, hN, hb⟩ := hrel
                by_cases hlt : k < x.trips.length
                · have hst := HG1.out.trips.keep hb.size fun b hb1 _ => hb.block b (by have := HZ.out; omega)
                  rw [HET.out] at hst
                  obtain ⟨b1, o1, p1, e1, _, _, hl1, _, hxx⟩ := hst.at_ hlt
                  injection e1 with e1 e2 e3
                  subst e1
                  obtain ⟨y, hye⟩ : ∃ y, x.trips[k] = y := ⟨_, rfl⟩
                  rw [hye] at hxx
                  have hx0 : wr.cell? ⟨b1, o1 + k * 5, none⟩ = some (.string (ba y.name)) := by simpa using hxx 0 _ rfl
                  have hx1 : wr.cell? ⟨b1, o1 + k * 5 + 1, none⟩ = some (.string (ba y.route)) := by simpa using hxx 1 _ rfl
                  have hx2 : wr.cell? ⟨b1, o1 + k * 5 + 2, none⟩ = some (.int .i64 y.start) := by simpa using hxx 2 _ rfl
                  have hx3 : wr.cell? ⟨b1, o1 + k * 5 + 3, none⟩ = some (.int .i64 y.every) := by simpa using hxx 3 _ rfl
                  have hx4 : wr.cell? ⟨b1, o1 + k * 5 + 4, none⟩ = some (.int .i64 y.stop) := by simpa using hxx 4 _ rfl
                  have HSZ := Lib.hid (show w.heap.size + 1 ≤ wr.heap.size by have := hb.size; have := HZ.out; omega)
                  obtain ⟨wy, hwy⟩ : ∃ wy, wr.alloc (.cells (trc y).toArray 52) = wy := ⟨_, rfl⟩
                  have hy0 : wy.cell? ⟨wr.heap.size, 0, none⟩ = some (.string (ba y.name)) := by rw [← hwy]; exact Lib.cell_of_heap (heap_alloc_new _ _) 0
                  have hy1 : wy.cell? ⟨wr.heap.size, 1, none⟩ = some (.string (ba y.route)) := by rw [← hwy]; exact Lib.cell_of_heap (heap_alloc_new _ _) 1
                  have hy2 : wy.cell? ⟨wr.heap.size, 2, none⟩ = some (.int .i64 y.start) := by rw [← hwy]; exact Lib.cell_of_heap (heap_alloc_new _ _) 2
                  have hy3 : wy.cell? ⟨wr.heap.size, 3, none⟩ = some (.int .i64 y.every) := by rw [← hwy]; exact Lib.cell_of_heap (heap_alloc_new _ _) 3
                  have hy4 : wy.cell? ⟨wr.heap.size, 4, none⟩ = some (.int .i64 y.stop) := by rw [← hwy]; exact Lib.cell_of_heap (heap_alloc_new _ _) 4
                  have hby : Below wr.heap.size wr wy := by rw [← hwy]; exact (Below.refl _ _).alloc (Nat.le_refl _) _
                  have HBY := Lib.hid (hb.trans (hby.mono HSZ.out))
                  obtain ⟨v, hp, ho⟩ := hN
                  have hpl : w.heap.size + 2 < wr.heap.size := (Array.getElem?_eq_some_iff.1 hp).1
                  have hpy : wy.heap[w.heap.size + 2]? = some (.cells #[v] 55 (0, 0)) := (hby.block _ hpl).trans hp
                  have hoy := Ow.below ho hby fun q hq => (ho.lt hq).2
                  have HGL := Lib.hid (fun q hq => (ho.lt (k := q) hq).2)
                  have hcy : wy.cell? ⟨w.heap.size + 2, 0, none⟩ = some v := by rw [Lib.cell_of_heap hpy]; rfl
                  have HOY := Lib.hid hoy
                  have HPY := Lib.hid (fun o : Obj => (Below.heap_alloc wy o (w.heap.size + 2) (by have := hby.size; omega)).trans hpy)
                  have HSY := Lib.hid (Nat.le_trans HSZ.out hby.size)
                  have E := Lib.hid (show nn3 x ++ (x.trips.take (k + 1)).flatMap (fun t => [t.start, t.every, t.stop]) = (nn3 x ++ (x.trips.take k).flatMap (fun t => [t.start, t.every, t.stop])) ++ [y.start, y.every, y.stop] by rw [take_flat_succ _ _ _ hlt, hye, List.append_assoc])
                  have hlen : (nn3 x ++ (x.trips.take k).flatMap (fun t => [t.start, t.every, t.stop])).length ≤ 2056193 := by
                    rw [List.length_append]
                    have := flat_le (fun t => [t.start, t.every, t.stop]) 3 (x.trips.take k) (fun _ _ => Nat.le_refl _) 1024 (by rw [List.length_take]; omega)
                    omega
                  have q1 : (0 : Int) ≤ (k : Int) := by omega
                  have q2 : (k : Int) < (x.trips.length : Int) := by omega
                  have hlb : wr.heap.size < wy.heap.size := by rw [← hwy]; simp
                  unfold trc at hwy
                  have HYE := Lib.hid hye
                  have HPL := Lib.hid hpl
                  have HPYY := Lib.hid hpy
                  clear hp ho hb e2 e3 hxx hst hby hye hoy hpl hpy
                  go_wp2_with (at_builtin; refine wpList_append_sl _ rfl _ _ _ rfl (w.heap.size + 1) 2 i0 _ 8 Tryz.underlying55 hi0 hz0 hz1 hz2 rfl (by omega) ic_len ic_one _ _ (nn3 x ++ (x.trips.take k).flatMap (fun t => [t.start, t.every, t.stop])) [y.start, y.every, y.stop] rfl rfl (HOY.out.alloc _) (Sl.newl [y.start, y.every, y.stop] ic_len rfl rfl (by show 3 ≤ maxLen; decide) rfl) (by simp only [maxLen, List.length_cons, List.length_nil]; omega) (by simp only [List.length_cons, List.length_nil]; omega) (by have := HSY.out; simp; omega) ?_; intro v4 w4 hown4 hg4 hmv4; have hcf := nv_at (HPY.out _) (HOY.out.alloc _) hg4; obtain ⟨hc4, hf4⟩ := hcf; obtain ⟨A4, n4, cp4, ev4⟩ := ow_form hown4; subst ev4)
                  have hst := NV.step (HPY.out _) (HOY.out.alloc _) (HBY.out.alloc HSY.out _) (by have := HSY.out; simp; omega) (Nat.le_succ _) hg4 hown4
                  have HST := Lib.hid hst
                  clear hst
                  go_roundg (x.trips.length - (k + 1))
                  case measure => omega
                  case rel => exact ⟨k + 1, by omega, by omega, by go_num, by rw [E.out]; exact HST.out.1, HST.out.2⟩
                · have hke : k = x.trips.length := by omega
                  subst hke
                  rw [List.take_length] at hN
                  replace hN : NV (w.heap.size + 1) (w.heap.size + 2) (nn4 x) wr := hN
                  have hB := hb
                  clear hb hlt hk hgg nl
                  have HN4 := Lib.hid hN
                  have HB4 := Lib.hid hB
                  have nl := nn4_len x HF.out
                  clear hN hB
                  obtain ⟨d0, d2, d3, d4, d5, d6⟩ := CELLS.out wr (HS1.out.below HB4.out (Nat.lt_succ_self _))
                  go_wp2_with fail
                  clear d0 d2 d3 d4 d5 d6
                  go_loopg [84] x.hazs.length (fun gg s wx => ∃ k : Nat, k ≤ x.hazs.length ∧ x.hazs.length - k ≤ gg ∧ s = .int .i64 k ∧ NV (w.heap.size + 1) (w.heap.size + 2) (nn4 x ++ (x.hazs.take k).flatMap (fun h => timesN h.times)) wx ∧ Below (w.heap.size + 1) w1 wx)
                  case atStart => exact ⟨0, Nat.zero_le _, by omega, rfl, by rw [List.take_zero, List.flatMap_nil, List.append_nil]; exact HN4.out, HB4.out⟩
                  case round =>
                    clear HN4 HB4
                    obtain ⟨k, hk, hgg, rfl, hN, hb⟩ := hrel
                    by_cases hlt : k < x.hazs.length
                    · have hst := HG1.out.hazs.keep hb.size fun b hb1 _ => hb.block b (by have := HZ.out; omega)
                      rw [HEH.out] at hst
                      obtain ⟨b1, o1, p1, e1, _, _, hl1, _, hxx⟩ := hst.at_ hlt
                      injection e1 with e1 e2 e3
                      subst e1
                      obtain ⟨y, hye⟩ : ∃ y, x.hazs[k] = y := ⟨_, rfl⟩
                      rw [hye] at hxx
                      have hx0 : wr.cell? ⟨b1, o1 + k * 5, none⟩ = some (.string (ba y.name)) := by simpa using hxx 0 _ rfl
                      have hx1 : wr.cell? ⟨b1, o1 + k * 5 + 1, none⟩ = some (.string (ba y.on)) := by simpa using hxx 1 _ rfl
                      have hx2 : wr.cell? ⟨b1, o1 + k * 5 + 2, none⟩ = some (.int .i64 y.times.start) := by simpa using hxx 2 _ rfl
                      have hx3 : wr.cell? ⟨b1, o1 + k * 5 + 3, none⟩ = some (.int .i64 y.times.every) := by simpa using hxx 3 _ rfl
                      have hx4 : wr.cell? ⟨b1, o1 + k * 5 + 4, none⟩ = some (.int .i64 y.times.len) := by simpa using hxx 4 _ rfl
                      have HSZ := Lib.hid (show w.heap.size + 1 ≤ wr.heap.size by have := hb.size; have := HZ.out; omega)
                      obtain ⟨wy, hwy⟩ : ∃ wy, wr.alloc (.cells (hc y).toArray 54) = wy := ⟨_, rfl⟩
                      have hy0 : wy.cell? ⟨wr.heap.size, 0, none⟩ = some (.string (ba y.name)) := by rw [← hwy]; exact Lib.cell_of_heap (heap_alloc_new _ _) 0
                      have hy1 : wy.cell? ⟨wr.heap.size, 1, none⟩ = some (.string (ba y.on)) := by rw [← hwy]; exact Lib.cell_of_heap (heap_alloc_new _ _) 1
                      have hy2 : wy.cell? ⟨wr.heap.size, 2, none⟩ = some (.int .i64 y.times.start) := by rw [← hwy]; exact Lib.cell_of_heap (heap_alloc_new _ _) 2
                      have hy3 : wy.cell? ⟨wr.heap.size, 3, none⟩ = some (.int .i64 y.times.every) := by rw [← hwy]; exact Lib.cell_of_heap (heap_alloc_new _ _) 3
                      have hy4 : wy.cell? ⟨wr.heap.size, 4, none⟩ = some (.int .i64 y.times.len) := by rw [← hwy]; exact Lib.cell_of_heap (heap_alloc_new _ _) 4
                      have hby : Below wr.heap.size wr wy := by rw [← hwy]; exact (Below.refl _ _).alloc (Nat.le_refl _) _
                      have HBY := Lib.hid (hb.trans (hby.mono HSZ.out))
                      obtain ⟨v, hp, ho⟩ := hN
                      have hpl : w.heap.size + 2 < wr.heap.size := (Array.getElem?_eq_some_iff.1 hp).1
                      have hpy : wy.heap[w.heap.size + 2]? = some (.cells #[v] 55 (0, 0)) := (hby.block _ hpl).trans hp
                      have hoy := Ow.below ho hby fun q hq => (ho.lt hq).2
                      have HGL := Lib.hid (fun q hq => (ho.lt (k := q) hq).2)
                      have hcy : wy.cell? ⟨w.heap.size + 2, 0, none⟩ = some v := by rw [Lib.cell_of_heap hpy]; rfl
                      have HOY := Lib.hid hoy
                      have HPY := Lib.hid (fun o : Obj => (Below.heap_alloc wy o (w.heap.size + 2) (by have := hby.size; omega)).trans hpy)
                      have HSY := Lib.hid (Nat.le_trans HSZ.out hby.size)
                      have E := Lib.hid (show nn4 x ++ (x.hazs.take (k + 1)).flatMap (fun h => timesN h.times) = (nn4 x ++ (x.hazs.take k).flatMap (fun h => timesN h.times)) ++ (timesN y.times) by rw [take_flat_succ _ _ _ hlt, hye, List.append_assoc])
                      have hlen : (nn4 x ++ (x.hazs.take k).flatMap (fun h => timesN h.times)).length ≤ 2059265 := by
                        rw [List.length_append]
                        have := flat_le (fun h => timesN h.times) 3 (x.hazs.take k) (fun _ _ => Nat.le_refl _) 1024 (by rw [List.length_take]; omega)
                        omega
                      have q1 : (0 : Int) ≤ (k : Int) := by omega
                      have q2 : (k : Int) < (x.hazs.length : Int) := by omega
                      have hlb : wr.heap.size < wy.heap.size := by rw [← hwy]; simp
                      unfold hc at hwy
                      have HYE := Lib.hid hye
                      have HPL := Lib.hid hpl
                      have HPYY := Lib.hid hpy
                      clear hp ho hb e2 e3 hxx hst hby hye hoy hpl hpy
                      go_wp2_with fail
                      refine (times1_any wy (w.heap.size + 1) (w.heap.size + 2) y.times _ ⟨v, HPYY.out, HOY.out⟩ HSY.out (Nat.le_succ _) (by omega)).mono ?_
                      rintro e w6 ⟨rfl, hN6, hb6⟩
                      have HN6 := Lib.hid hN6
                      have HB6 := Lib.hid (HBY.out.trans hb6)
                      clear hN6 hb6
                      go_wp2_with fail
                      go_roundg (x.hazs.length - (k + 1))
                      case measure => omega
                      case rel => exact ⟨k + 1, by omega, by omega, by go_num, by rw [E.out]; exact HN6.out, HB6.out⟩
                    · have hke : k = x.hazs.length := by omega
                      subst hke
                      rw [List.take_length] at hN
                      replace hN : NV (w.heap.size + 1) (w.heap.size + 2) (nn4 x ++ x.hazs.flatMap (fun h => timesN h.times)) wr := hN
                      have hB := hb
                      clear hb hlt hk hgg nl
                      obtain ⟨v, hp, ho⟩ := hN
                      have hcv : wr.cell? ⟨w.heap.size + 2, 0, none⟩ = some v := by rw [Lib.cell_of_heap hp]; rfl
                      have HO := Lib.hid ho
                      have HB := Lib.hid hB
                      clear ho hB hp
                      go_wp2_with fail
                      go_ret
                      exact ⟨_, rfl, by rw [← nums_eq]; exact HO.out.lower (Nat.le_succ _), HB1.out.trans (HB.out.mono (Nat.le_succ _))⟩
end Go.Proofs.YteonefgbdphmiaaGreatDoor
