/- The walk of sheet.names. Printed by wip/bin/gennm.py. -/
import Derived.Test.YteonefgbdphmiaaGreatDoorSk
import Derived.Test.YteonefgbdphmiaaGreatDoorMh
namespace Go.Proofs.YteonefgbdphmiaaGreatDoor
open Go.RowKit

/-- The block holds the sheet's cells. -/
def SheetAt (b : Nat) (x : SheetM) (w : World) : Prop := w.cell? ⟨b, 0, none⟩ = some (.int .i64 x.hor) ∧ w.cell? ⟨b, 1, none⟩ = some x.vs ∧ w.cell? ⟨b, 2, none⟩ = some x.vp ∧ w.cell? ⟨b, 3, none⟩ = some x.vd ∧ w.cell? ⟨b, 4, none⟩ = some x.vr ∧ w.cell? ⟨b, 5, none⟩ = some x.vt ∧ w.cell? ⟨b, 6, none⟩ = some x.vh
theorem SheetAt.of {w : World} {b : Nat} {x : SheetM} {t : TypeId} {fr : Nat × Nat} (h : w.heap[b]? = some (.cells x.c.toArray t fr)) : SheetAt b x w :=
  ⟨Lib.cell_of_heap h 0, Lib.cell_of_heap h 1, Lib.cell_of_heap h 2, Lib.cell_of_heap h 3, Lib.cell_of_heap h 4, Lib.cell_of_heap h 5, Lib.cell_of_heap h 6⟩
theorem SheetAt.below {B : Nat} {w w' : World} {b : Nat} {x : SheetM} (h : SheetAt b x w) (hb : Below B w w') (hlt : b < B) : SheetAt b x w' := by
  obtain ⟨s0, s1, s2, s3, s4, s5, s6⟩ := h
  exact ⟨(hb.cell (p := ⟨b, 0, none⟩) hlt).trans s0, (hb.cell (p := ⟨b, 1, none⟩) hlt).trans s1, (hb.cell (p := ⟨b, 2, none⟩) hlt).trans s2, (hb.cell (p := ⟨b, 3, none⟩) hlt).trans s3, (hb.cell (p := ⟨b, 4, none⟩) hlt).trans s4, (hb.cell (p := ⟨b, 5, none⟩) hlt).trans s5, (hb.cell (p := ⟨b, 6, none⟩) hlt).trans s6⟩
theorem flat_le {α β : Type} (f : α → List β) (m : Nat) (l : List α) (h : ∀ x ∈ l, (f x).length ≤ m) (n : Nat) (hn : l.length ≤ n) : (l.flatMap f).length ≤ n * m := by
  refine Nat.le_trans ?_ (Nat.mul_le_mul_right m hn)
  clear hn
  induction l with
  | nil => simp
  | cons a l ih =>
    rw [List.flatMap_cons, List.length_append, List.length_cons, Nat.add_mul]
    have h1 := h a (List.mem_cons_self ..)
    have h2 := ih fun x hx => h x (List.mem_cons_of_mem _ hx)
    omega
theorem take_flat_succ {α β : Type} (f : α → List β) (l : List α) (k : Nat) (h : k < l.length) : (l.take (k + 1)).flatMap f = (l.take k).flatMap f ++ f l[k] := by
  rw [take_succ_eq l k h, List.flatMap_append]; simp
/-- How much there is at most of a sheet that is gone through. -/
structure SheetM.Few (x : SheetM) : Prop where
  stops : x.stops.length ≤ 1024
  paths : x.paths.length ≤ 1024
  doors : x.doors.length ≤ 1024
  routes : x.routes.length ≤ 1024
  trips : x.trips.length ≤ 1024
  hazs : x.hazs.length ≤ 1024
  each : ∀ r ∈ x.routes, r.stops.length ≤ 1000 ∧ r.rides.length ≤ 1000 ∧ r.stays.length ≤ 1000
def nm0 (x : SheetM) : Nms := x.stops
def nm1 (x : SheetM) : Nms := nm0 x ++ x.paths.flatMap (fun p => [p.name, p.a, p.b])
def nm2 (x : SheetM) : Nms := nm1 x ++ x.doors.flatMap (fun p => [p.name, p.a, p.b])
def nm3 (x : SheetM) : Nms := nm2 x ++ x.routes.flatMap (fun r => [r.name] ++ r.stops)
def nm4 (x : SheetM) : Nms := nm3 x ++ x.trips.flatMap (fun t => [t.name, t.route])
theorem names_eq (x : SheetM) : nm4 x ++ x.hazs.flatMap (fun h => [h.name, h.on]) = namesD x.d := by
  unfold nm4 nm3 nm2 nm1 nm0 namesD
  rw [show x.d.routes.flatMap (fun r => [r.name] ++ r.stops) = x.routes.flatMap (fun r => [r.name] ++ r.stops) from by
    show (x.routes.map RouteM.d).flatMap _ = _
    rw [List.flatMap_map]; rfl]
  rfl
theorem nm0_len (x : SheetM) (h : x.Few) : (nm0 x).length ≤ 1024 := h.stops
theorem nm1_len (x : SheetM) (h : x.Few) : (nm1 x).length ≤ 4096 := by
  have h1 := nm0_len x h
  have h2 := flat_le (fun p => [p.name, p.a, p.b]) 3 x.paths (fun _ _ => Nat.le_refl _) 1024 h.paths
  unfold nm1
  rw [List.length_append]
  omega
theorem nm2_len (x : SheetM) (h : x.Few) : (nm2 x).length ≤ 7168 := by
  have h1 := nm1_len x h
  have h2 := flat_le (fun p => [p.name, p.a, p.b]) 3 x.doors (fun _ _ => Nat.le_refl _) 1024 h.doors
  unfold nm2
  rw [List.length_append]
  omega
theorem nm3_len (x : SheetM) (h : x.Few) : (nm3 x).length ≤ 1032192 := by
  have h1 := nm2_len x h
  have h2 := flat_le (fun r => [r.name] ++ r.stops) 1001 x.routes (fun r hr => by have := (h.each r hr).1; simp; omega) 1024 h.routes
  unfold nm3
  rw [List.length_append]
  omega
theorem nm4_len (x : SheetM) (h : x.Few) : (nm4 x).length ≤ 1034240 := by
  have h1 := nm3_len x h
  have h2 := flat_le (fun t => [t.name, t.route]) 2 x.trips (fun _ _ => Nat.le_refl _) 1024 h.trips
  unfold nm4
  rw [List.length_append]
  omega
set_option maxHeartbeats 4000000 in
set_option maxRecDepth 100000 in
theorem names_any (w : World) (x : SheetM) {P : Nat → Prop} (hg : x.Good w P) (hf : x.Few) :
    Calls Tryz.prog 45 #[x.v] w (Made nc 1 9 (namesD x.d) w) := by
  obtain ⟨i0, hi0, hz0, hz1, hz2⟩ := info_parts info_string
  obtain ⟨w1, hw1⟩ : ∃ w1, w.alloc (.cells x.c.toArray 29) = w1 := ⟨_, rfl⟩
  have hS1 : SheetAt w.heap.size x w1 := by rw [← hw1]; exact SheetAt.of (heap_alloc_new _ _)
  have hb1 : Below w.heap.size w w1 := by rw [← hw1]; exact (Below.refl _ _).alloc (Nat.le_refl _) _
  have hlt : w.heap.size < w1.heap.size := by rw [← hw1]; simp
  have HB1 := Lib.hid hb1
  have HG1 := Lib.hid (hg.below_ hb1)
  have HS1 := Lib.hid hS1
  have HLT := Lib.hid hlt
  have HF := Lib.hid hf
  obtain ⟨As, cs, es, _, _⟩ := hg.stops.shape
  obtain ⟨Ap, cp, ep, _, _⟩ := hg.paths.shape
  obtain ⟨Ad, cd, ed, _, _⟩ := hg.doors.shape
  obtain ⟨Ar, cr, er, _, _⟩ := hg.routes.shape
  obtain ⟨At, ct, et, _, _⟩ := hg.trips.shape
  obtain ⟨Ah, ch, eh, _, _⟩ := hg.hazs.shape
  have n0 := hf.stops
  have n1 := hf.paths
  have n2 := hf.doors
  have n3 := hf.routes
  have n4 := hf.trips
  have n5 := hf.hazs
  have cells : ∀ wx, SheetAt w.heap.size x wx → wx.cell? ⟨w.heap.size, 1, none⟩ = some (.slice As x.stops.length cs) ∧ wx.cell? ⟨w.heap.size, 2, none⟩ = some (.slice Ap x.paths.length cp) ∧ wx.cell? ⟨w.heap.size, 3, none⟩ = some (.slice Ad x.doors.length cd) ∧ wx.cell? ⟨w.heap.size, 4, none⟩ = some (.slice Ar x.routes.length cr) ∧ wx.cell? ⟨w.heap.size, 5, none⟩ = some (.slice At x.trips.length ct) ∧ wx.cell? ⟨w.heap.size, 6, none⟩ = some (.slice Ah x.hazs.length ch) := by
    rintro wx ⟨s0, s1, s2, s3, s4, s5, s6⟩
    rw [es] at s1
    rw [ep] at s2
    rw [ed] at s3
    rw [er] at s4
    rw [et] at s5
    rw [eh] at s6
    exact ⟨s1, s2, s3, s4, s5, s6⟩
  have CELLS := Lib.hid cells
  have HEP := Lib.hid ep
  have HED := Lib.hid ed
  have HER := Lib.hid er
  have HET := Lib.hid et
  have HEH := Lib.hid eh
  have HCL := Lib.hid (nclone_any w1 x.vs x.stops (hg.below_ hb1).stops (by omega))
  rw [es] at HCL
  unfold SheetM.v
  unfold SheetM.c at hw1
  rw [es, ep, ed, er, et, eh] at hw1
  rw [es, ep, ed, er, et, eh]
  obtain ⟨c1, c2, c3, c4, c5, c6⟩ := cells w1 hS1
  clear es ep ed er et eh hS1 hb1 hlt hf hg cells
  go_enter Tryz.func45, Tryz.ntmps45
  go_wp2_with fail
  clear hw1
  refine HCL.out.mono ?_
  rintro e wr ⟨v0, rfl, ho, hb⟩
  have ho0 : Ow nc 1 wr w1.heap.size 9 v0 (nm0 x) := ho
  have hB := hb
  clear ho hb c1 c2 c3 c4 c5 c6
  have HO0 := Lib.hid ho0
  have HB0 := Lib.hid hB
  obtain ⟨c1, c2, c3, c4, c5, c6⟩ := CELLS.out wr (HS1.out.below hB HLT.out)
  have HSZ0 := Lib.hid (show w1.heap.size ≤ wr.heap.size from hB.size)
  have nl := nm0_len x HF.out
  clear ho0 hB
  go_wp2_with fail
  clear c1 c2 c3 c4 c5 c6
  go_loopg [20, 3] x.paths.length (fun gg s v wx => ∃ k : Nat, k ≤ x.paths.length ∧ x.paths.length - k ≤ gg ∧ s = .int .i64 k ∧ Ow nc 1 wx w1.heap.size 9 v (nm0 x ++ (x.paths.take k).flatMap (fun p => [p.name, p.a, p.b])) ∧ Below w1.heap.size w1 wx)
  case atStart => exact ⟨0, Nat.zero_le _, by omega, rfl, by rw [List.take_zero, List.flatMap_nil, List.append_nil]; exact HO0.out, HB0.out⟩
  case round =>
    clear HO0 HB0 HSZ0
    obtain ⟨k, hk, hgg, rfl, ho, hb⟩ := hrel
    by_cases hlt : k < x.paths.length
    · have hst := HG1.out.paths.keep hb.size fun b hb1 _ => hb.block b hb1
      rw [HEP.out] at hst
      obtain ⟨b1, o1, p1, e1, _, _, hl1, _, hxx⟩ := hst.at_ hlt
      injection e1 with e1 e2 e3
      subst e1
      obtain ⟨y, hye⟩ : ∃ y, x.paths[k] = y := ⟨_, rfl⟩
      rw [hye] at hxx
      have hx0 : wr.cell? ⟨b1, o1 + k * 4, none⟩ = some (.string (ba y.name)) := by simpa using hxx 0 _ rfl
      have hx1 : wr.cell? ⟨b1, o1 + k * 4 + 1, none⟩ = some (.string (ba y.a)) := by simpa using hxx 1 _ rfl
      have hx2 : wr.cell? ⟨b1, o1 + k * 4 + 2, none⟩ = some (.string (ba y.b)) := by simpa using hxx 2 _ rfl
      have hx3 : wr.cell? ⟨b1, o1 + k * 4 + 3, none⟩ = some (.int .i64 y.len) := by simpa using hxx 3 _ rfl
      have HSZ := Lib.hid (show w1.heap.size ≤ wr.heap.size from hb.size)
      obtain ⟨wy, hwy⟩ : ∃ wy, wr.alloc (.cells (pc y).toArray 61) = wy := ⟨_, rfl⟩
      have hy0 : wy.cell? ⟨wr.heap.size, 0, none⟩ = some (.string (ba y.name)) := by rw [← hwy]; exact Lib.cell_of_heap (heap_alloc_new _ _) 0
      have hy1 : wy.cell? ⟨wr.heap.size, 1, none⟩ = some (.string (ba y.a)) := by rw [← hwy]; exact Lib.cell_of_heap (heap_alloc_new _ _) 1
      have hy2 : wy.cell? ⟨wr.heap.size, 2, none⟩ = some (.string (ba y.b)) := by rw [← hwy]; exact Lib.cell_of_heap (heap_alloc_new _ _) 2
      have hy3 : wy.cell? ⟨wr.heap.size, 3, none⟩ = some (.int .i64 y.len) := by rw [← hwy]; exact Lib.cell_of_heap (heap_alloc_new _ _) 3
      have hby : Below wr.heap.size wr wy := by rw [← hwy]; exact (Below.refl _ _).alloc (Nat.le_refl _) _
      have HBY := Lib.hid (hb.trans (hby.mono HSZ.out))
      have HOY := Lib.hid (Ow.below ho hby fun q hq => (ho.lt hq).2)
      have HSY := Lib.hid (Nat.le_trans HSZ.out hby.size)
      have E := Lib.hid (show nm0 x ++ (x.paths.take (k + 1)).flatMap (fun p => [p.name, p.a, p.b]) = (nm0 x ++ (x.paths.take k).flatMap (fun p => [p.name, p.a, p.b])) ++ [y.name, y.a, y.b] by rw [take_flat_succ _ _ _ hlt, hye, List.append_assoc])
      have hlen : (nm0 x ++ (x.paths.take k).flatMap (fun p => [p.name, p.a, p.b])).length ≤ 4096 := by
        rw [List.length_append]
        have := flat_le (fun p => [p.name, p.a, p.b]) 3 (x.paths.take k) (fun _ _ => Nat.le_refl _) 1024 (by rw [List.length_take]; omega)
        omega
      have q1 : (0 : Int) ≤ (k : Int) := by omega
      have q2 : (k : Int) < (x.paths.length : Int) := by omega
      have hlb : wr.heap.size < wy.heap.size := by rw [← hwy]; simp
      have HGL := Lib.hid (fun q hq => (ho.lt (k := q) hq).2)
      unfold pc at hwy
      have HYE := Lib.hid hye
      clear ho hb e2 e3 hxx hst hby hye
      go_wp2_with (at_builtin; refine wpList_append_sl _ rfl _ _ _ rfl w1.heap.size 9 i0 _ 16 Tryz.underlying22 hi0 hz0 hz1 hz2 rfl (by omega) nc_len nc_one _ _ (nm0 x ++ (x.paths.take k).flatMap (fun p => [p.name, p.a, p.b])) [y.name, y.a, y.b] rfl rfl (HOY.out.alloc _) (Sl.newl [y.name, y.a, y.b] nc_len rfl rfl (by show 3 ≤ maxLen; decide) rfl) (by simp only [maxLen, List.length_cons, List.length_nil]; omega) (by simp only [List.length_cons, List.length_nil]; omega) (by have := HSY.out; simp; omega) ?_; intro v1 w4 hown1 hg1 hmv1)
      go_roundg (x.paths.length - (k + 1))
      case measure => omega
      case rel => exact ⟨k + 1, by omega, by omega, by go_num, by rw [E.out]; exact hown1, app_keep HBY.out HSY.out HOY.out hg1⟩
    · have hke : k = x.paths.length := by omega
      subst hke
      rw [List.take_length] at ho
      have ho0 : Ow nc 1 wr w1.heap.size 9 _ (nm1 x) := ho
      have hB := hb
      clear ho hb hlt hk hgg nl
      have HO1 := Lib.hid ho0
      have HB1 := Lib.hid hB
      obtain ⟨c1, c2, c3, c4, c5, c6⟩ := CELLS.out wr (HS1.out.below hB HLT.out)
      have HSZ1 := Lib.hid (show w1.heap.size ≤ wr.heap.size from hB.size)
      have nl := nm1_len x HF.out
      clear ho0 hB
      go_wp2_with fail
      clear c1 c2 c3 c4 c5 c6
      go_loopg [37, 3] x.doors.length (fun gg s v wx => ∃ k : Nat, k ≤ x.doors.length ∧ x.doors.length - k ≤ gg ∧ s = .int .i64 k ∧ Ow nc 1 wx w1.heap.size 9 v (nm1 x ++ (x.doors.take k).flatMap (fun p => [p.name, p.a, p.b])) ∧ Below w1.heap.size w1 wx)
      case atStart => exact ⟨0, Nat.zero_le _, by omega, rfl, by rw [List.take_zero, List.flatMap_nil, List.append_nil]; exact HO1.out, HB1.out⟩
      case round =>
        clear HO1 HB1 HSZ1
        obtain ⟨k, hk, hgg, rfl, ho, hb⟩ := hrel
        by_cases hlt : k < x.doors.length
        · have hst := HG1.out.doors.keep hb.size fun b hb1 _ => hb.block b hb1
          rw [HED.out] at hst
          obtain ⟨b1, o1, p1, e1, _, _, hl1, _, hxx⟩ := hst.at_ hlt
          injection e1 with e1 e2 e3
          subst e1
          obtain ⟨y, hye⟩ : ∃ y, x.doors[k] = y := ⟨_, rfl⟩
          rw [hye] at hxx
          have hx0 : wr.cell? ⟨b1, o1 + k * 7, none⟩ = some (.string (ba y.name)) := by simpa using hxx 0 _ rfl
          have hx1 : wr.cell? ⟨b1, o1 + k * 7 + 1, none⟩ = some (.string (ba y.a)) := by simpa using hxx 1 _ rfl
          have hx2 : wr.cell? ⟨b1, o1 + k * 7 + 2, none⟩ = some (.string (ba y.b)) := by simpa using hxx 2 _ rfl
          have hx3 : wr.cell? ⟨b1, o1 + k * 7 + 3, none⟩ = some (.int .i64 y.len) := by simpa using hxx 3 _ rfl
          have hx4 : wr.cell? ⟨b1, o1 + k * 7 + 4, none⟩ = some (.int .i64 y.times.start) := by simpa using hxx 4 _ rfl
          have hx5 : wr.cell? ⟨b1, o1 + k * 7 + 5, none⟩ = some (.int .i64 y.times.every) := by simpa using hxx 5 _ rfl
          have hx6 : wr.cell? ⟨b1, o1 + k * 7 + 6, none⟩ = some (.int .i64 y.times.len) := by simpa using hxx 6 _ rfl
          have HSZ := Lib.hid (show w1.heap.size ≤ wr.heap.size from hb.size)
          obtain ⟨wy, hwy⟩ : ∃ wy, wr.alloc (.cells (dc y).toArray 50) = wy := ⟨_, rfl⟩
          have hy0 : wy.cell? ⟨wr.heap.size, 0, none⟩ = some (.string (ba y.name)) := by rw [← hwy]; exact Lib.cell_of_heap (heap_alloc_new _ _) 0
          have hy1 : wy.cell? ⟨wr.heap.size, 1, none⟩ = some (.string (ba y.a)) := by rw [← hwy]; exact Lib.cell_of_heap (heap_alloc_new _ _) 1
          have hy2 : wy.cell? ⟨wr.heap.size, 2, none⟩ = some (.string (ba y.b)) := by rw [← hwy]; exact Lib.cell_of_heap (heap_alloc_new _ _) 2
          have hy3 : wy.cell? ⟨wr.heap.size, 3, none⟩ = some (.int .i64 y.len) := by rw [← hwy]; exact Lib.cell_of_heap (heap_alloc_new _ _) 3
          have hy4 : wy.cell? ⟨wr.heap.size, 4, none⟩ = some (.int .i64 y.times.start) := by rw [← hwy]; exact Lib.cell_of_heap (heap_alloc_new _ _) 4
          have hy5 : wy.cell? ⟨wr.heap.size, 5, none⟩ = some (.int .i64 y.times.every) := by rw [← hwy]; exact Lib.cell_of_heap (heap_alloc_new _ _) 5
          have hy6 : wy.cell? ⟨wr.heap.size, 6, none⟩ = some (.int .i64 y.times.len) := by rw [← hwy]; exact Lib.cell_of_heap (heap_alloc_new _ _) 6
          have hby : Below wr.heap.size wr wy := by rw [← hwy]; exact (Below.refl _ _).alloc (Nat.le_refl _) _
          have HBY := Lib.hid (hb.trans (hby.mono HSZ.out))
          have HOY := Lib.hid (Ow.below ho hby fun q hq => (ho.lt hq).2)
          have HSY := Lib.hid (Nat.le_trans HSZ.out hby.size)
          have E := Lib.hid (show nm1 x ++ (x.doors.take (k + 1)).flatMap (fun p => [p.name, p.a, p.b]) = (nm1 x ++ (x.doors.take k).flatMap (fun p => [p.name, p.a, p.b])) ++ [y.name, y.a, y.b] by rw [take_flat_succ _ _ _ hlt, hye, List.append_assoc])
          have hlen : (nm1 x ++ (x.doors.take k).flatMap (fun p => [p.name, p.a, p.b])).length ≤ 7168 := by
            rw [List.length_append]
            have := flat_le (fun p => [p.name, p.a, p.b]) 3 (x.doors.take k) (fun _ _ => Nat.le_refl _) 1024 (by rw [List.length_take]; omega)
            omega
          have q1 : (0 : Int) ≤ (k : Int) := by omega
          have q2 : (k : Int) < (x.doors.length : Int) := by omega
          have hlb : wr.heap.size < wy.heap.size := by rw [← hwy]; simp
          have HGL := Lib.hid (fun q hq => (ho.lt (k := q) hq).2)
          unfold dc at hwy
          have HYE := Lib.hid hye
          clear ho hb e2 e3 hxx hst hby hye
          go_wp2_with (at_builtin; refine wpList_append_sl _ rfl _ _ _ rfl w1.heap.size 9 i0 _ 16 Tryz.underlying22 hi0 hz0 hz1 hz2 rfl (by omega) nc_len nc_one _ _ (nm1 x ++ (x.doors.take k).flatMap (fun p => [p.name, p.a, p.b])) [y.name, y.a, y.b] rfl rfl (HOY.out.alloc _) (Sl.newl [y.name, y.a, y.b] nc_len rfl rfl (by show 3 ≤ maxLen; decide) rfl) (by simp only [maxLen, List.length_cons, List.length_nil]; omega) (by simp only [List.length_cons, List.length_nil]; omega) (by have := HSY.out; simp; omega) ?_; intro v1 w4 hown1 hg1 hmv1)
          go_roundg (x.doors.length - (k + 1))
          case measure => omega
          case rel => exact ⟨k + 1, by omega, by omega, by go_num, by rw [E.out]; exact hown1, app_keep HBY.out HSY.out HOY.out hg1⟩
        · have hke : k = x.doors.length := by omega
          subst hke
          rw [List.take_length] at ho
          have ho0 : Ow nc 1 wr w1.heap.size 9 _ (nm2 x) := ho
          have hB := hb
          clear ho hb hlt hk hgg nl
          have HO2 := Lib.hid ho0
          have HB2 := Lib.hid hB
          obtain ⟨c1, c2, c3, c4, c5, c6⟩ := CELLS.out wr (HS1.out.below hB HLT.out)
          have HSZ2 := Lib.hid (show w1.heap.size ≤ wr.heap.size from hB.size)
          have nl := nm2_len x HF.out
          clear ho0 hB
          go_wp2_with fail
          clear c1 c2 c3 c4 c5 c6
          go_loopg [54, 3] x.routes.length (fun gg s v wx => ∃ k : Nat, k ≤ x.routes.length ∧ x.routes.length - k ≤ gg ∧ s = .int .i64 k ∧ Ow nc 1 wx w1.heap.size 9 v (nm2 x ++ (x.routes.take k).flatMap (fun r => [r.name] ++ r.stops)) ∧ Below w1.heap.size w1 wx)
          case atStart => exact ⟨0, Nat.zero_le _, by omega, rfl, by rw [List.take_zero, List.flatMap_nil, List.append_nil]; exact HO2.out, HB2.out⟩
          case round =>
            clear HO2 HB2 HSZ2
            obtain ⟨k, hk, hgg, rfl, ho, hb⟩ := hrel
            by_cases hlt : k < x.routes.length
            · have hst := HG1.out.routes.keep hb.size fun b hb1 _ => hb.block b hb1
              rw [HER.out] at hst
              obtain ⟨b1, o1, p1, e1, _, _, hl1, _, hxx⟩ := hst.at_ hlt
              injection e1 with e1 e2 e3
              subst e1
              obtain ⟨y, hye⟩ : ∃ y, x.routes[k] = y := ⟨_, rfl⟩
              rw [hye] at hxx
              have hx0 : wr.cell? ⟨b1, o1 + k * 4, none⟩ = some (.string (ba y.name)) := by simpa using hxx 0 _ rfl
              have hx1 : wr.cell? ⟨b1, o1 + k * 4 + 1, none⟩ = some (y.vs) := by simpa using hxx 1 _ rfl
              have hx2 : wr.cell? ⟨b1, o1 + k * 4 + 2, none⟩ = some (y.vr) := by simpa using hxx 2 _ rfl
              have hx3 : wr.cell? ⟨b1, o1 + k * 4 + 3, none⟩ = some (y.vy) := by simpa using hxx 3 _ rfl
              have HSZ := Lib.hid (show w1.heap.size ≤ wr.heap.size from hb.size)
              obtain ⟨wy, hwy⟩ : ∃ wy, wr.alloc (.cells (rc y).toArray 57) = wy := ⟨_, rfl⟩
              have hy0 : wy.cell? ⟨wr.heap.size, 0, none⟩ = some (.string (ba y.name)) := by rw [← hwy]; exact Lib.cell_of_heap (heap_alloc_new _ _) 0
              have hy1 : wy.cell? ⟨wr.heap.size, 1, none⟩ = some (y.vs) := by rw [← hwy]; exact Lib.cell_of_heap (heap_alloc_new _ _) 1
              have hy2 : wy.cell? ⟨wr.heap.size, 2, none⟩ = some (y.vr) := by rw [← hwy]; exact Lib.cell_of_heap (heap_alloc_new _ _) 2
              have hy3 : wy.cell? ⟨wr.heap.size, 3, none⟩ = some (y.vy) := by rw [← hwy]; exact Lib.cell_of_heap (heap_alloc_new _ _) 3
              have hgy := HG1.out.each y (by rw [← hye]; exact List.getElem_mem hlt)
              obtain ⟨Ax1, cx1, ex1, _, _⟩ := hgy.stops.shape
              obtain ⟨Ax2, cx2, ex2, _, _⟩ := hgy.rides.shape
              obtain ⟨Ax3, cx3, ex3, _, _⟩ := hgy.stays.shape
              have HY1 := Lib.hid ex1
              have HGY := Lib.hid hgy.stops
              rw [ex1] at hx1 hy1
              rw [ex2] at hx2 hy2
              rw [ex3] at hx3 hy3
              have hby : Below wr.heap.size wr wy := by rw [← hwy]; exact (Below.refl _ _).alloc (Nat.le_refl _) _
              have HBY := Lib.hid (hb.trans (hby.mono HSZ.out))
              have HOY := Lib.hid (Ow.below ho hby fun q hq => (ho.lt hq).2)
              have HSY := Lib.hid (Nat.le_trans HSZ.out hby.size)
              have E := Lib.hid (show nm2 x ++ (x.routes.take (k + 1)).flatMap (fun r => [r.name] ++ r.stops) = (nm2 x ++ (x.routes.take k).flatMap (fun r => [r.name] ++ r.stops)) ++ ([y.name] ++ y.stops) by rw [take_flat_succ _ _ _ hlt, hye, List.append_assoc])
              have hlen : (nm2 x ++ (x.routes.take k).flatMap (fun r => [r.name] ++ r.stops)).length ≤ 1032192 := by
                rw [List.length_append]
                have := flat_le (fun r => [r.name] ++ r.stops) 1001 (x.routes.take k) (fun r hr => by have := (HF.out.each r (List.mem_of_mem_take hr)).1; simp; omega) 1024 (by rw [List.length_take]; omega)
                omega
              have q1 : (0 : Int) ≤ (k : Int) := by omega
              have q2 : (k : Int) < (x.routes.length : Int) := by omega
              have hlb : wr.heap.size < wy.heap.size := by rw [← hwy]; simp
              have HGL := Lib.hid (fun q hq => (ho.lt (k := q) hq).2)
              unfold rc at hwy
              rw [ex1, ex2, ex3] at hwy
              have HYE := Lib.hid hye
              clear ho hb e2 e3 hxx hst hby hye
              clear ex1 ex2 ex3
              go_upto_region 15 with fail
              clear hwy hx0 hx1 hx2 hx3
              have hSw := And.intro hy0 hy1
              clear hy0 hy1 hy2 hy3
              refine wp_region_kinds (fun w' => w'.cell? ⟨wr.heap.size, 0, none⟩ = some (.string (ba y.name)) ∧ w'.cell? ⟨wr.heap.size, 1, none⟩ = some (.slice Ax1 y.stops.length cx1)) [3, 4] [7] [2, 6] [0, 1, 5, 8] [0, 1, 2, 5, 6, 3, 4, 7, 8] (by kernel_rfl) (by kernel_rfl) (fun w n h => h) ?_
              repeat (first | (refine wpKind_free (v := ?_) (by rfl) rfl (by rfl) ?_ ?_; rotate_left 1; (focus (intro wy; go_simp; try with_reducible rfl; done)); try simp only [Act.put, List.setIfInBounds_toArray, List.set_cons_zero, List.set_cons_succ]) | (refine wpKind_held (v := ?_) (by rfl) rfl (by rfl) hSw ?_ ?_; rotate_left 1; (focus (intro wy hSy; obtain ⟨s0, s1⟩ := hSy; go_simp; try with_reducible rfl; done)); try simp only [Act.put, List.setIfInBounds_toArray, List.set_cons_zero, List.set_cons_succ]))
              have hyl := (HF.out.each y (by rw [← HYE.out]; exact List.getElem_mem hlt)).1
              refine wpKind_keeps (by rfl) rfl (fun n1 => ?_)
              go_wp2_with fail
              show _ ∧ _
              have hc2 : ∀ (o : Obj) (i : Nat), ((wy.drewN n1).alloc o).cell? ⟨wr.heap.size, i, none⟩ = wy.cell? ⟨wr.heap.size, i, none⟩ := fun o i => World.cell?_alloc_lt (wy.drewN n1) o ⟨wr.heap.size, i, none⟩ hlb
              refine ⟨⟨(hc2 _ 0).trans hSw.1, (hc2 _ 1).trans hSw.2⟩, ?_⟩
              refine wpKind_keeps (by rfl) rfl (fun n2 => ?_)
              go_wp2_with (at_builtin; refine wpList_append_sl _ rfl _ _ _ rfl w1.heap.size 9 i0 _ 16 Tryz.underlying22 hi0 hz0 hz1 hz2 rfl (by omega) nc_len nc_one _ _ (nm2 x ++ (x.routes.take k).flatMap (fun r => [r.name] ++ r.stops)) [y.name] rfl rfl (((HOY.out.drewN n1).alloc _).drewN n2) ((Sl.new1 y.name rfl).drewN n2) (by simp only [maxLen, List.length_cons, List.length_nil]; omega) (by simp only [List.length_cons, List.length_nil]; omega) (by have := HSY.out; show w1.heap.size ≤ ((wy.drewN n1).alloc _).heap.size; rw [World.size_alloc]; show _ ≤ wy.heap.size + 1; omega) ?_; intro v1 w4 hown1 hg1 hmv1)
              show _ ∧ _
              have hB4 : Below w1.heap.size w1 w4 := app_keep (w := (wy.drewN n1).drewN n2) (below_drewN (below_drewN HBY.out n1) n2) HSY.out ((HOY.out.drewN n1).drewN n2) hg1
              have hblk := hg1.block wr.heap.size (show wr.heap.size < ((wy.drewN n1).alloc _).heap.size by rw [World.size_alloc]; show _ < wy.heap.size + 1; omega) (fun h => absurd (HGL.out _ h.symm) (Nat.lt_irrefl _))
              have hc4 : ∀ i : Nat, w4.cell? ⟨wr.heap.size, i, none⟩ = wy.cell? ⟨wr.heap.size, i, none⟩ := fun i => (World.cell?_of_block (a := ⟨wr.heap.size, i, none⟩) hblk).trans (hc2 _ i)
              refine ⟨⟨(hc4 0).trans hSw.1, (hc4 1).trans hSw.2⟩, ?_⟩
              have HB4 := Lib.hid hB4
              have HO4 := Lib.hid hown1
              have hgy4 : Sl nc 1 w4 (.slice Ax1 y.stops.length cx1) y.stops P := by rw [← HY1.out]; exact HGY.out.keep hB4.size fun b hb1 _ => hB4.block b hb1
              have HY4 := Lib.hid hgy4
              have HS4 := Lib.hid (show w1.heap.size ≤ w4.heap.size from hB4.size)
              clear hB4 hblk hc4 hc2 hg1 hmv1 hown1 hgy4 hSw
              refine wpKind_serial (by rfl) rfl (fun n3 => ?_)
              go_wp2_with (at_builtin; refine wpList_append_sl _ rfl _ _ _ rfl w1.heap.size 9 i0 _ 16 Tryz.underlying22 hi0 hz0 hz1 hz2 rfl (by omega) nc_len nc_one _ _ ((nm2 x ++ (x.routes.take k).flatMap (fun r => [r.name] ++ r.stops)) ++ [y.name]) y.stops rfl rfl (HO4.out.drewN n3) (HY4.out.drewN n3) (by simp only [maxLen, List.length_append, List.length_cons, List.length_nil] at *; omega) (by simp only [List.length_append, List.length_cons, List.length_nil] at *; omega) HS4.out ?_; intro v5 w5 hown5 hg5 hmv5)
              have HB5 := Lib.hid (show Below w1.heap.size w1 w5 from (below_drewN HB4.out n3).grown hg5 HS4.out fun q hq => ((HO4.out.drewN n3).lt hq).1)
              have HO5 := Lib.hid hown5
              clear hg5 hmv5 hown5
              repeat (first | (refine wpKind_free (v := ?_) (by rfl) rfl (by rfl) ?_ ?_; rotate_left 1; (focus (intro wy; go_simp; try with_reducible rfl; done)); try simp only [Act.put, List.setIfInBounds_toArray, List.set_cons_zero, List.set_cons_succ]) | (refine wpKind_held (v := ?_) (by rfl) rfl (by rfl) hSw ?_ ?_; rotate_left 1; (focus (intro wy hSy; obtain ⟨s0, s1⟩ := hSy; go_simp; try with_reducible rfl; done)); try simp only [Act.put, List.setIfInBounds_toArray, List.set_cons_zero, List.set_cons_succ]))
              refine wpKind_nil fun n5 => ?_
              go_wp2_with fail
              go_roundg (x.routes.length - (k + 1))
              case measure => omega
              case rel => exact ⟨k + 1, by omega, by omega, by go_num, by rw [E.out, ← List.append_assoc]; exact HO5.out.drewN n5, below_drewN HB5.out n5⟩
            · have hke : k = x.routes.length := by omega
              subst hke
              rw [List.take_length] at ho
              have ho0 : Ow nc 1 wr w1.heap.size 9 _ (nm3 x) := ho
              have hB := hb
              clear ho hb hlt hk hgg nl
              have HO3 := Lib.hid ho0
              have HB3 := Lib.hid hB
              obtain ⟨c1, c2, c3, c4, c5, c6⟩ := CELLS.out wr (HS1.out.below hB HLT.out)
              have HSZ3 := Lib.hid (show w1.heap.size ≤ wr.heap.size from hB.size)
              have nl := nm3_len x HF.out
              clear ho0 hB
              go_wp2_with fail
              clear c1 c2 c3 c4 c5 c6
              go_loopg [70, 3] x.trips.length (fun gg s v wx => ∃ k : Nat, k ≤ x.trips.length ∧ x.trips.length - k ≤ gg ∧ s = .int .i64 k ∧ Ow nc 1 wx w1.heap.size 9 v (nm3 x ++ (x.trips.take k).flatMap (fun t => [t.name, t.route])) ∧ Below w1.heap.size w1 wx)
              case atStart => exact ⟨0, Nat.zero_le _, by omega, rfl, by rw [List.take_zero, List.flatMap_nil, List.append_nil]; exact HO3.out, HB3.out⟩
              case round =>
                clear HO3 HB3 HSZ3
                obtain ⟨k, hk, hgg, rfl, ho, hb⟩ := hrel
                by_cases hlt : k < x.trips.length
                · have hst := HG1.out.trips.keep hb.size fun b hb1 _ => hb.block b hb1
                  rw [HET.out] at hst
                  obtain ⟨b1, o1, p1, e1, _, _, hl1, _, hxx⟩ := hst.at_ hlt
                  injection e1 with e1 e2 e3
                  subst e1
                  obtain ⟨y, hye⟩ : ∃ y, x.trips[k] = y := ⟨_, rfl⟩
                  rw [hye] at hxx
                  have hx0 : wr.cell? ⟨b1, o1 + k * 5, none⟩ = some (.string (ba y.name)) := by simpa using hxx 0 _ rfl
                  have hx1 : wr.cell? ⟨b1, o1 + k * 5 + 1, none⟩ = some (.string (ba y.route)) := by simpa using hxx 1 _ rfl
                  have hx2 : wr.cell? ⟨b1, o1 + k * 5 + 2, none⟩ = some (.int .i64 y.start) := by simpa using hxx 2 _ rfl
                  have hx3 : wr.cell? ⟨b1, o1 + k * 5 + 3, none⟩ = some (.int .i64 y.every) := by simpa using hxx 3 _ rfl
                  have hx4 : wr.cell? ⟨b1, o1 + k * 5 + 4, none⟩ = some (.int .i64 y.stop) := by simpa using hxx 4 _ rfl
                  have HSZ := Lib.hid (show w1.heap.size ≤ wr.heap.size from hb.size)
                  obtain ⟨wy, hwy⟩ : ∃ wy, wr.alloc (.cells (trc y).toArray 52) = wy := ⟨_, rfl⟩
                  have hy0 : wy.cell? ⟨wr.heap.size, 0, none⟩ = some (.string (ba y.name)) := by rw [← hwy]; exact Lib.cell_of_heap (heap_alloc_new _ _) 0
                  have hy1 : wy.cell? ⟨wr.heap.size, 1, none⟩ = some (.string (ba y.route)) := by rw [← hwy]; exact Lib.cell_of_heap (heap_alloc_new _ _) 1
                  have hy2 : wy.cell? ⟨wr.heap.size, 2, none⟩ = some (.int .i64 y.start) := by rw [← hwy]; exact Lib.cell_of_heap (heap_alloc_new _ _) 2
                  have hy3 : wy.cell? ⟨wr.heap.size, 3, none⟩ = some (.int .i64 y.every) := by rw [← hwy]; exact Lib.cell_of_heap (heap_alloc_new _ _) 3
                  have hy4 : wy.cell? ⟨wr.heap.size, 4, none⟩ = some (.int .i64 y.stop) := by rw [← hwy]; exact Lib.cell_of_heap (heap_alloc_new _ _) 4
                  have hby : Below wr.heap.size wr wy := by rw [← hwy]; exact (Below.refl _ _).alloc (Nat.le_refl _) _
                  have HBY := Lib.hid (hb.trans (hby.mono HSZ.out))
                  have HOY := Lib.hid (Ow.below ho hby fun q hq => (ho.lt hq).2)
                  have HSY := Lib.hid (Nat.le_trans HSZ.out hby.size)
                  have E := Lib.hid (show nm3 x ++ (x.trips.take (k + 1)).flatMap (fun t => [t.name, t.route]) = (nm3 x ++ (x.trips.take k).flatMap (fun t => [t.name, t.route])) ++ [y.name, y.route] by rw [take_flat_succ _ _ _ hlt, hye, List.append_assoc])
                  have hlen : (nm3 x ++ (x.trips.take k).flatMap (fun t => [t.name, t.route])).length ≤ 1034240 := by
                    rw [List.length_append]
                    have := flat_le (fun t => [t.name, t.route]) 2 (x.trips.take k) (fun _ _ => Nat.le_refl _) 1024 (by rw [List.length_take]; omega)
                    omega
                  have q1 : (0 : Int) ≤ (k : Int) := by omega
                  have q2 : (k : Int) < (x.trips.length : Int) := by omega
                  have hlb : wr.heap.size < wy.heap.size := by rw [← hwy]; simp
                  have HGL := Lib.hid (fun q hq => (ho.lt (k := q) hq).2)
                  unfold trc at hwy
                  have HYE := Lib.hid hye
                  clear ho hb e2 e3 hxx hst hby hye
                  go_wp2_with (at_builtin; refine wpList_append_sl _ rfl _ _ _ rfl w1.heap.size 9 i0 _ 16 Tryz.underlying22 hi0 hz0 hz1 hz2 rfl (by omega) nc_len nc_one _ _ (nm3 x ++ (x.trips.take k).flatMap (fun t => [t.name, t.route])) [y.name, y.route] rfl rfl (HOY.out.alloc _) (Sl.newl [y.name, y.route] nc_len rfl rfl (by show 2 ≤ maxLen; decide) rfl) (by simp only [maxLen, List.length_cons, List.length_nil]; omega) (by simp only [List.length_cons, List.length_nil]; omega) (by have := HSY.out; simp; omega) ?_; intro v1 w4 hown1 hg1 hmv1)
                  go_roundg (x.trips.length - (k + 1))
                  case measure => omega
                  case rel => exact ⟨k + 1, by omega, by omega, by go_num, by rw [E.out]; exact hown1, app_keep HBY.out HSY.out HOY.out hg1⟩
                · have hke : k = x.trips.length := by omega
                  subst hke
                  rw [List.take_length] at ho
                  have ho0 : Ow nc 1 wr w1.heap.size 9 _ (nm4 x) := ho
                  have hB := hb
                  clear ho hb hlt hk hgg nl
                  have HO4 := Lib.hid ho0
                  have HB4 := Lib.hid hB
                  obtain ⟨c1, c2, c3, c4, c5, c6⟩ := CELLS.out wr (HS1.out.below hB HLT.out)
                  have HSZ4 := Lib.hid (show w1.heap.size ≤ wr.heap.size from hB.size)
                  have nl := nm4_len x HF.out
                  clear ho0 hB
                  go_wp2_with fail
                  clear c1 c2 c3 c4 c5 c6
                  go_loopg [85, 3] x.hazs.length (fun gg s v wx => ∃ k : Nat, k ≤ x.hazs.length ∧ x.hazs.length - k ≤ gg ∧ s = .int .i64 k ∧ Ow nc 1 wx w1.heap.size 9 v (nm4 x ++ (x.hazs.take k).flatMap (fun h => [h.name, h.on])) ∧ Below w1.heap.size w1 wx)
                  case atStart => exact ⟨0, Nat.zero_le _, by omega, rfl, by rw [List.take_zero, List.flatMap_nil, List.append_nil]; exact HO4.out, HB4.out⟩
                  case round =>
                    clear HO4 HB4 HSZ4
                    obtain ⟨k, hk, hgg, rfl, ho, hb⟩ := hrel
                    by_cases hlt : k < x.hazs.length
                    · have hst := HG1.out.hazs.keep hb.size fun b hb1 _ => hb.block b hb1
                      rw [HEH.out] at hst
                      obtain ⟨b1, o1, p1, e1, _, _, hl1, _, hxx⟩ := hst.at_ hlt
                      injection e1 with e1 e2 e3
                      subst e1
                      obtain ⟨y, hye⟩ : ∃ y, x.hazs[k] = y := ⟨_, rfl⟩
                      rw [hye] at hxx
                      have hx0 : wr.cell? ⟨b1, o1 + k * 5, none⟩ = some (.string (ba y.name)) := by simpa using hxx 0 _ rfl
                      have hx1 : wr.cell? ⟨b1, o1 + k * 5 + 1, none⟩ = some (.string (ba y.on)) := by simpa using hxx 1 _ rfl
                      have hx2 : wr.cell? ⟨b1, o1 + k * 5 + 2, none⟩ = some (.int .i64 y.times.start) := by simpa using hxx 2 _ rfl
                      have hx3 : wr.cell? ⟨b1, o1 + k * 5 + 3, none⟩ = some (.int .i64 y.times.every) := by simpa using hxx 3 _ rfl
                      have hx4 : wr.cell? ⟨b1, o1 + k * 5 + 4, none⟩ = some (.int .i64 y.times.len) := by simpa using hxx 4 _ rfl
                      have HSZ := Lib.hid (show w1.heap.size ≤ wr.heap.size from hb.size)
                      obtain ⟨wy, hwy⟩ : ∃ wy, wr.alloc (.cells (hc y).toArray 54) = wy := ⟨_, rfl⟩
                      have hy0 : wy.cell? ⟨wr.heap.size, 0, none⟩ = some (.string (ba y.name)) := by rw [← hwy]; exact Lib.cell_of_heap (heap_alloc_new _ _) 0
                      have hy1 : wy.cell? ⟨wr.heap.size, 1, none⟩ = some (.string (ba y.on)) := by rw [← hwy]; exact Lib.cell_of_heap (heap_alloc_new _ _) 1
                      have hy2 : wy.cell? ⟨wr.heap.size, 2, none⟩ = some (.int .i64 y.times.start) := by rw [← hwy]; exact Lib.cell_of_heap (heap_alloc_new _ _) 2
                      have hy3 : wy.cell? ⟨wr.heap.size, 3, none⟩ = some (.int .i64 y.times.every) := by rw [← hwy]; exact Lib.cell_of_heap (heap_alloc_new _ _) 3
                      have hy4 : wy.cell? ⟨wr.heap.size, 4, none⟩ = some (.int .i64 y.times.len) := by rw [← hwy]; exact Lib.cell_of_heap (heap_alloc_new _ _) 4
                      have hby : Below wr.heap.size wr wy := by rw [← hwy]; exact (Below.refl _ _).alloc (Nat.le_refl _) _
                      have HBY := Lib.hid (hb.trans (hby.mono HSZ.out))
                      have HOY := Lib.hid (Ow.below ho hby fun q hq => (ho.lt hq).2)
                      have HSY := Lib.hid (Nat.le_trans HSZ.out hby.size)
                      have E := Lib.hid (show nm4 x ++ (x.hazs.take (k + 1)).flatMap (fun h => [h.name, h.on]) = (nm4 x ++ (x.hazs.take k).flatMap (fun h => [h.name, h.on])) ++ [y.name, y.on] by rw [take_flat_succ _ _ _ hlt, hye, List.append_assoc])
                      have hlen : (nm4 x ++ (x.hazs.take k).flatMap (fun h => [h.name, h.on])).length ≤ 1036288 := by
                        rw [List.length_append]
                        have := flat_le (fun h => [h.name, h.on]) 2 (x.hazs.take k) (fun _ _ => Nat.le_refl _) 1024 (by rw [List.length_take]; omega)
                        omega
                      have q1 : (0 : Int) ≤ (k : Int) := by omega
                      have q2 : (k : Int) < (x.hazs.length : Int) := by omega
                      have hlb : wr.heap.size < wy.heap.size := by rw [← hwy]; simp
                      have HGL := Lib.hid (fun q hq => (ho.lt (k := q) hq).2)
                      unfold hc at hwy
                      have HYE := Lib.hid hye
                      clear ho hb e2 e3 hxx hst hby hye
                      go_wp2_with (at_builtin; refine wpList_append_sl _ rfl _ _ _ rfl w1.heap.size 9 i0 _ 16 Tryz.underlying22 hi0 hz0 hz1 hz2 rfl (by omega) nc_len nc_one _ _ (nm4 x ++ (x.hazs.take k).flatMap (fun h => [h.name, h.on])) [y.name, y.on] rfl rfl (HOY.out.alloc _) (Sl.newl [y.name, y.on] nc_len rfl rfl (by show 2 ≤ maxLen; decide) rfl) (by simp only [maxLen, List.length_cons, List.length_nil]; omega) (by simp only [List.length_cons, List.length_nil]; omega) (by have := HSY.out; simp; omega) ?_; intro v1 w4 hown1 hg1 hmv1)
                      go_roundg (x.hazs.length - (k + 1))
                      case measure => omega
                      case rel => exact ⟨k + 1, by omega, by omega, by go_num, by rw [E.out]; exact hown1, app_keep HBY.out HSY.out HOY.out hg1⟩
                    · have hke : k = x.hazs.length := by omega
                      subst hke
                      rw [List.take_length] at ho
                      have ho0 : Ow nc 1 wr w1.heap.size 9 _ (nm4 x ++ x.hazs.flatMap (fun h => [h.name, h.on])) := ho
                      have hB := hb
                      clear ho hb hlt hk hgg nl
                      have HO := Lib.hid ho0
                      have HB := Lib.hid hB
                      clear ho0 hB
                      go_wp2_with fail
                      go_ret
                      exact ⟨_, rfl, by rw [← names_eq]; exact HO.out.lower HB1.out.size, HB1.out.trans (HB.out.mono HB1.out.size)⟩
end Go.Proofs.YteonefgbdphmiaaGreatDoor
