/- The law ShowCalls: its walk. Printed by wip/bin/genzh.py. -/
import Derived.Test.YtmihinhbcncbfaaGreatDoorZi
import Derived.Test.YtmihinhbcncbfaaGreatDoorZs
import Derived.Test.YtmihinhbcncbfaaGreatDoorZo
import Derived.Test.YtmihinhbcncbfaaGreatDoorOy
import Derived.Test.YtmihinhbcncbfaaGreatDoorVv
import Derived.Deep.CutBlock
import Derived.Deep.CutRange
import Derived.Deep.DeepCutAuto
namespace Go.Proofs.YtmihinhbcncbfaaGreatDoor
open Go.RowKit
def tV (d : SheetD) : List UInt8 := if checkD d = 0 then textL (linesD d) else []
def lV (d : SheetD) : Nms := if checkD d = 0 then linesD d else []
theorem lV_len {x : SheetM} (hf : x.Few) : (lV x.d).length ≤ 1048576 := by
  unfold lV
  split
  · have := linesD_len x hf; omega
  · simp
theorem text_comb (w : World) (x : SheetM) {P : Nat → Prop} (hg : x.Good w P) (hl : lightD x.d 60 = true) (hT : Tabs w) (hP : Pow w) (hm : ∀ s ∈ namesD x.d, s.length ≤ maxLen) :
    Calls Tryz.prog 9 #[x.v] w fun e w' => e = .returned (.tuple #[.string (ba (tV x.d)), .int .i64 (checkD x.d)]) ∧ Below w.heap.size w w' := by
  unfold tV
  by_cases hc : checkD x.d = 0
  · rw [if_pos hc, hc]; exact text_ok w x hg (light_few hl) (light_long hl) hT hP hm hc
  · rw [if_neg hc]; exact text_bad w x hg (light_few hl) (light_long hl) hT hm hc
theorem ztext_comb (w : World) (x : SheetM) {P : Nat → Prop} (hg : x.Good w P) (hl : lightD x.d 60 = true) (hm : ∀ s ∈ namesD x.d, s.length ≤ maxLen) :
    Calls Tryz.prog 11 #[x.v] w fun e w' => e = .returned (.tuple #[.string (ba (tV x.d)), .int .i64 (checkD x.d)]) ∧ Below w.heap.size w w' := by
  unfold tV
  by_cases hc : checkD x.d = 0
  · rw [if_pos hc, hc]; exact ztext6_ok w x hg (light_few hl) (light_long hl) hm hc
  · rw [if_neg hc]; exact ztext6_bad w x hg (light_few hl) (light_long hl) hm hc
theorem lines_comb (w : World) (x : SheetM) {P : Nat → Prop} (hg : x.Good w P) (hl : lightD x.d 60 = true) (hT : Tabs w) (hP : Pow w) (hm : ∀ s ∈ namesD x.d, s.length ≤ maxLen) :
    Calls Tryz.prog 12 #[x.v] w fun e w' => ∃ v, e = .returned (.tuple #[v, .int .i64 (checkD x.d)]) ∧ Sl nc 1 w' v (lV x.d) (fun _ => True) ∧ Below w.heap.size w w' := by
  unfold lV
  by_cases hc : checkD x.d = 0
  · rw [if_pos hc, hc]
    refine (lines_ok w x hg (light_few hl) (light_long hl) hT hP hm hc).mono ?_
    rintro e w' ⟨v, he, ho, hb⟩
    exact ⟨v, he, (ho.sl nc_len).mono fun _ _ => trivial, hb⟩
  · rw [if_neg hc]
    refine (lines_bad w x hg (light_few hl) (light_long hl) hT hm hc).mono ?_
    rintro e w' ⟨he, hb⟩
    exact ⟨_, he, Sl.nil_, hb⟩
theorem zlines_comb (w : World) (x : SheetM) {P : Nat → Prop} (hg : x.Good w P) (hl : lightD x.d 60 = true) (hm : ∀ s ∈ namesD x.d, s.length ≤ maxLen) :
    Calls Tryz.prog 13 #[x.v] w fun e w' => ∃ v, e = .returned (.tuple #[v, .int .i64 (checkD x.d)]) ∧ Sl nc 1 w' v (lV x.d) (fun _ => True) ∧ Below w.heap.size w w' := by
  unfold lV
  by_cases hc : checkD x.d = 0
  · rw [if_pos hc, hc]
    refine (zlines_ok w x hg (light_few hl) (light_long hl) hm hc).mono ?_
    rintro e w' ⟨v, he, ho, hb⟩
    exact ⟨v, he, (ho.sl nc_len).mono fun _ _ => trivial, hb⟩
  · rw [if_neg hc]
    refine (zlines_bad w x hg (light_few hl) (light_long hl) hm hc).mono ?_
    rintro e w' ⟨he, hb⟩
    exact ⟨_, he, Sl.nil_, hb⟩
theorem OwnS.good {w w' : World} {x y : SheetM} (h : OwnS w x y w') : y.Good w' (fun _ => True) :=
  ⟨(h.stops.sl nc_len).mono fun _ _ => trivial, (h.paths.sl pc_len).mono fun _ _ => trivial, (h.doors.sl dc_len).mono fun _ _ => trivial, h.routes.mono fun _ _ => trivial, fun r hr => (h.each r hr).mono fun _ _ => trivial, (h.trips.sl trc_len).mono fun _ _ => trivial, (h.hazs.sl hc_len).mono fun _ _ => trivial⟩
/-- Six blocks made one behind the other. -/
theorem alloc6 (w : World) (o0 o1 o2 o3 o4 o5 : Obj) {w1 : World} (e : (((((w.alloc o0).alloc o1).alloc o2).alloc o3).alloc o4).alloc o5 = w1) :
    (w1.heap[w.heap.size]? = some o0 ∧ w1.heap[w.heap.size + 1]? = some o1 ∧ w1.heap[w.heap.size + 2]? = some o2 ∧ w1.heap[w.heap.size + 3]? = some o3 ∧ w1.heap[w.heap.size + 4]? = some o4 ∧ w1.heap[w.heap.size + 5]? = some o5) ∧ w1.heap.size = w.heap.size + 6 ∧ Below w.heap.size w w1 := by
  subst e
  refine ⟨⟨?_, ?_, ?_, ?_, ?_, ?_⟩, by simp, ((((((Below.refl _ _).alloc (Nat.le_refl _) _).alloc (by simp) _).alloc (by simp; omega) _).alloc (by simp; omega) _).alloc (by simp; omega) _).alloc (by simp; omega) _⟩
  · rw [Below.heap_alloc _ _ _ (by simp; try omega), Below.heap_alloc _ _ _ (by simp; try omega), Below.heap_alloc _ _ _ (by simp; try omega), Below.heap_alloc _ _ _ (by simp; try omega), Below.heap_alloc _ _ _ (by simp)]; exact heap_alloc_new _ _
  · have h1 := heap_alloc_new (w.alloc o0) o1
    rw [show (w.alloc o0).heap.size = w.heap.size + 1 by simp] at h1
    rw [Below.heap_alloc _ _ _ (by simp; try omega), Below.heap_alloc _ _ _ (by simp; try omega), Below.heap_alloc _ _ _ (by simp; try omega), Below.heap_alloc _ _ _ (by simp)]; exact h1
  · have h := heap_alloc_new ((w.alloc o0).alloc o1) o2
    rw [show ((w.alloc o0).alloc o1).heap.size = w.heap.size + 2 by simp] at h
    rw [Below.heap_alloc _ _ _ (by simp; try omega), Below.heap_alloc _ _ _ (by simp; try omega), Below.heap_alloc _ _ _ (by simp)]; exact h
  · have h := heap_alloc_new (((w.alloc o0).alloc o1).alloc o2) o3
    rw [show (((w.alloc o0).alloc o1).alloc o2).heap.size = w.heap.size + 3 by simp] at h
    rw [Below.heap_alloc _ _ _ (by simp; try omega), Below.heap_alloc _ _ _ (by simp)]; exact h
  · have h := heap_alloc_new ((((w.alloc o0).alloc o1).alloc o2).alloc o3) o4
    rw [show ((((w.alloc o0).alloc o1).alloc o2).alloc o3).heap.size = w.heap.size + 4 by simp] at h
    rw [Below.heap_alloc _ _ _ (by simp)]; exact h
  · have h := heap_alloc_new (((((w.alloc o0).alloc o1).alloc o2).alloc o3).alloc o4) o5
    rw [show (((((w.alloc o0).alloc o1).alloc o2).alloc o3).alloc o4).heap.size = w.heap.size + 5 by simp] at h
    exact h
theorem words_le (ws : List Wd) (n : Nat) (hn : ws.length ≤ n) (h9 : n ≤ 100) (h : ∀ y ∈ ws, y.t.length ≤ 1048576) : (line ws).length ≤ 140737488355328 := by
  have h1 := line_le ws 1048576 h
  have h2 : (1048576 + 1) * ws.length ≤ (1048576 + 1) * 100 := Nat.mul_le_mul_left _ (by omega)
  omega
theorem pathL_leC {p : PathD} (b : Lo p.name ∧ Lo p.a ∧ Lo p.b) (g : I64 p.len) : (pathL p).length ≤ 140737488355328 := by
  refine words_le (pathW p) 5 (Nat.le_refl _) (by decide) ?_
  unfold pathW
  intro y hy
  simp only [List.mem_cons, List.not_mem_nil, or_false] at hy
  rcases hy with rfl | rfl | rfl | rfl | rfl
  · show kPath.length ≤ _; decide
  · exact b.1
  · exact b.2.1
  · exact b.2.2
  · exact Nat.le_trans (dec_le g) (by decide)
theorem doorL_leC {p : DoorD} (b : Lo p.name ∧ Lo p.a ∧ Lo p.b) (g : I64 p.len) (f : p.times.Fit) : (doorL p).length ≤ 140737488355328 := by
  refine words_le (doorW p) 6 (Nat.le_refl _) (by decide) ?_
  unfold doorW
  intro y hy
  simp only [List.mem_cons, List.not_mem_nil, or_false] at hy
  rcases hy with rfl | rfl | rfl | rfl | rfl | rfl
  · show kDoor.length ≤ _; decide
  · exact b.1
  · exact b.2.1
  · exact b.2.2
  · exact Nat.le_trans (dec_le g) (by decide)
  · exact Nat.le_trans (timesL_le f (by decide)) (by decide)
theorem tripL_leC {t : TripD} (b : Lo t.name ∧ Lo t.route) (g1 : I64 t.start) (g2 : I64 t.every) (g3 : I64 t.stop) : (tripL t).length ≤ 140737488355328 := by
  refine words_le (tripW t) 10 (Nat.le_refl _) (by decide) ?_
  unfold tripW
  intro y hy
  simp only [List.mem_cons, List.not_mem_nil, or_false] at hy
  rcases hy with rfl | rfl | rfl | rfl | rfl | rfl | rfl | rfl | rfl | rfl
  · show kTrip.length ≤ _; decide
  · exact b.1
  · show kOf.length ≤ _; decide
  · exact b.2
  · show kFrom.length ≤ _; decide
  · exact Nat.le_trans (dec_le g1) (by decide)
  · show kEvery.length ≤ _; decide
  · exact Nat.le_trans (dec_le g2) (by decide)
  · show kUntil.length ≤ _; decide
  · exact Nat.le_trans (dec_le g3) (by decide)
theorem hazL_leC {h : HazD} (b : Lo h.name ∧ Lo h.on) (f : h.times.Fit) : (hazL h).length ≤ 140737488355328 := by
  refine words_le (hazW h) 5 (Nat.le_refl _) (by decide) ?_
  unfold hazW
  intro y hy
  simp only [List.mem_cons, List.not_mem_nil, or_false] at hy
  rcases hy with rfl | rfl | rfl | rfl | rfl
  · show kHazard.length ≤ _; decide
  · exact b.1
  · show kOn.length ≤ _; decide
  · exact b.2
  · exact Nat.le_trans (timesL_le f (by decide)) (by decide)
set_option maxHeartbeats 16000000 in
set_option maxRecDepth 100000 in
theorem scalls_any (w : World) (x : SheetM) (p : PathD) (d : DoorD) (r : RouteM) (t : TripD) (h : HazD) (hg : x.Good w (fun _ => True)) (ha : x.Arg w) (gp : GPath p) (bp : Lo p.name ∧ Lo p.a ∧ Lo p.b) (gd : GDoor d) (bd : Lo d.name ∧ Lo d.a ∧ Lo d.b)
    (gr : GRoute w r) (br : Lo r.name ∧ ∀ s ∈ r.stops, Lo s) (gt : GTrip t) (bt : Lo t.name ∧ Lo t.route) (gh : GHaz h) (bh : Lo h.name ∧ Lo h.on) (hT : Tabs w) (hP : Pow w) :
    Calls Tryz.prog 3 #[x.v, .agg (pc p).toArray, .agg (dc d).toArray, .agg (rc r).toArray, .agg (trc t).toArray, .agg (hc h).toArray] w fun e w' => e = .returned (.bool true) ∧ Below w.heap.size w w' := by
  have HM := Lib.hid (arg_names ha)
  have HGP := Lib.hid gp
  have HGD := Lib.hid gd
  have HGR := Lib.hid gr
  have HGT := Lib.hid gt
  have HGH := Lib.hid gh
  have HBP := Lib.hid bp
  have HBD := Lib.hid bd
  have HBR := Lib.hid br
  have HBT := Lib.hid bt
  have HBH := Lib.hid bh
  have HG := Lib.hid hg
  have HT := Lib.hid hT
  have HP := Lib.hid hP
  obtain ⟨As, cs, Ap, cp, Ad, cd, Ar, cr, At, ct, Ah, ch, es, ep, ed, er, et, eh⟩ := SheetAt.forms hg
  obtain ⟨Rs, rs, Rr, rr, Ry, ry, ⟨ers, err⟩, ery⟩ := rcells gr.2.1
  have V : x.v = .agg #[.int .i64 x.hor, .slice As x.stops.length cs, .slice Ap x.paths.length cp, .slice Ad x.doors.length cd, .slice Ar x.routes.length cr, .slice At x.trips.length ct, .slice Ah x.hazs.length ch] := by
    unfold SheetM.v; rw [es, ep, ed, er, et, eh]
  have VR : (rc r).toArray = #[.string (ba r.name), .slice Rs r.stops.length rs, .slice Rr r.rides.length rr, .slice Ry r.stays.length ry] := by unfold rc; rw [ers, err, ery]
  have VR2 : r.v = .agg #[.string (ba r.name), .slice Rs r.stops.length rs, .slice Rr r.rides.length rr, .slice Ry r.stays.length ry] := by unfold RouteM.v; rw [ers, err, ery]
  have HV := Lib.hid V
  have HVR := Lib.hid VR
  have HVR2 := Lib.hid VR2
  rw [V, VR]
  unfold pc dc trc hc
  clear hg ha gp gd gr gt gh bp bd br bt bh hT hP es ep ed er et eh ers err ery V VR VR2
  go_enter Tryz.func3, Tryz.ntmps3
  go_upto_region 1 with fail
  obtain ⟨w1, hw1⟩ : ∃ w1, (((((w.alloc (.cells #[.int .i64 x.hor, .slice As x.stops.length cs, .slice Ap x.paths.length cp, .slice Ad x.doors.length cd, .slice Ar x.routes.length cr, .slice At x.trips.length ct, .slice Ah x.hazs.length ch] 29)).alloc (.cells #[.string (ba p.name), .string (ba p.a), .string (ba p.b), .int .i64 p.len] 31)).alloc (.cells #[.string (ba d.name), .string (ba d.a), .string (ba d.b), .int .i64 d.len, .int .i64 d.times.start, .int .i64 d.times.every, .int .i64 d.times.len] 35)).alloc (.cells #[.string (ba r.name), .slice Rs r.stops.length rs, .slice Rr r.rides.length rr, .slice Ry r.stays.length ry] 38)).alloc (.cells #[.string (ba t.name), .string (ba t.route), .int .i64 t.start, .int .i64 t.every, .int .i64 t.stop] 40)).alloc (.cells #[.string (ba h.name), .string (ba h.on), .int .i64 h.times.start, .int .i64 h.times.every, .int .i64 h.times.len] 42) = w1 := ⟨_, rfl⟩
  have h6 := alloc6 _ _ _ _ _ _ _ hw1
  rw [hw1]
  clear hw1
  obtain ⟨⟨hqX, hqP, hqD, hqR, hqT, hqH⟩, hz6, hb1⟩ := h6
  have HB1 := Lib.hid hb1
  have lt6 : w.heap.size + 5 < w1.heap.size := by omega
  have HCX := Lib.hid (fun (wy : World) (hy : Below w1.heap.size w1 wy) => (show wy.cell? ⟨w.heap.size, 0, none⟩ = some (.int .i64 x.hor) ∧ wy.cell? ⟨w.heap.size, 1, none⟩ = some (.slice As x.stops.length cs) ∧ wy.cell? ⟨w.heap.size, 2, none⟩ = some (.slice Ap x.paths.length cp) ∧ wy.cell? ⟨w.heap.size, 3, none⟩ = some (.slice Ad x.doors.length cd) ∧ wy.cell? ⟨w.heap.size, 4, none⟩ = some (.slice Ar x.routes.length cr) ∧ wy.cell? ⟨w.heap.size, 5, none⟩ = some (.slice At x.trips.length ct) ∧ wy.cell? ⟨w.heap.size, 6, none⟩ = some (.slice Ah x.hazs.length ch) from ⟨(hy.cell (p := ⟨w.heap.size, 0, none⟩) (by show w.heap.size < _; omega)).trans (Lib.cell_of_heap hqX 0), (hy.cell (p := ⟨w.heap.size, 1, none⟩) (by show w.heap.size < _; omega)).trans (Lib.cell_of_heap hqX 1), (hy.cell (p := ⟨w.heap.size, 2, none⟩) (by show w.heap.size < _; omega)).trans (Lib.cell_of_heap hqX 2), (hy.cell (p := ⟨w.heap.size, 3, none⟩) (by show w.heap.size < _; omega)).trans (Lib.cell_of_heap hqX 3), (hy.cell (p := ⟨w.heap.size, 4, none⟩) (by show w.heap.size < _; omega)).trans (Lib.cell_of_heap hqX 4), (hy.cell (p := ⟨w.heap.size, 5, none⟩) (by show w.heap.size < _; omega)).trans (Lib.cell_of_heap hqX 5), (hy.cell (p := ⟨w.heap.size, 6, none⟩) (by show w.heap.size < _; omega)).trans (Lib.cell_of_heap hqX 6)⟩))
  have HC := Lib.hid (fun (wy : World) (hy : Below w1.heap.size w1 wy) => (show wy.cell? ⟨w.heap.size + 1, 0, none⟩ = some (.string (ba p.name)) ∧ wy.cell? ⟨w.heap.size + 1, 1, none⟩ = some (.string (ba p.a)) ∧ wy.cell? ⟨w.heap.size + 1, 2, none⟩ = some (.string (ba p.b)) ∧ wy.cell? ⟨w.heap.size + 1, 3, none⟩ = some (.int .i64 p.len) ∧ wy.cell? ⟨w.heap.size + 2, 0, none⟩ = some (.string (ba d.name)) ∧ wy.cell? ⟨w.heap.size + 2, 1, none⟩ = some (.string (ba d.a)) ∧ wy.cell? ⟨w.heap.size + 2, 2, none⟩ = some (.string (ba d.b)) ∧ wy.cell? ⟨w.heap.size + 2, 3, none⟩ = some (.int .i64 d.len) ∧ wy.cell? ⟨w.heap.size + 2, 4, none⟩ = some (.int .i64 d.times.start) ∧ wy.cell? ⟨w.heap.size + 2, 5, none⟩ = some (.int .i64 d.times.every) ∧ wy.cell? ⟨w.heap.size + 2, 6, none⟩ = some (.int .i64 d.times.len) ∧ wy.cell? ⟨w.heap.size + 3, 0, none⟩ = some (.string (ba r.name)) ∧ wy.cell? ⟨w.heap.size + 3, 1, none⟩ = some (.slice Rs r.stops.length rs) ∧ wy.cell? ⟨w.heap.size + 3, 2, none⟩ = some (.slice Rr r.rides.length rr) ∧ wy.cell? ⟨w.heap.size + 3, 3, none⟩ = some (.slice Ry r.stays.length ry) ∧ wy.cell? ⟨w.heap.size + 4, 0, none⟩ = some (.string (ba t.name)) ∧ wy.cell? ⟨w.heap.size + 4, 1, none⟩ = some (.string (ba t.route)) ∧ wy.cell? ⟨w.heap.size + 4, 2, none⟩ = some (.int .i64 t.start) ∧ wy.cell? ⟨w.heap.size + 4, 3, none⟩ = some (.int .i64 t.every) ∧ wy.cell? ⟨w.heap.size + 4, 4, none⟩ = some (.int .i64 t.stop) ∧ wy.cell? ⟨w.heap.size + 5, 0, none⟩ = some (.string (ba h.name)) ∧ wy.cell? ⟨w.heap.size + 5, 1, none⟩ = some (.string (ba h.on)) ∧ wy.cell? ⟨w.heap.size + 5, 2, none⟩ = some (.int .i64 h.times.start) ∧ wy.cell? ⟨w.heap.size + 5, 3, none⟩ = some (.int .i64 h.times.every) ∧ wy.cell? ⟨w.heap.size + 5, 4, none⟩ = some (.int .i64 h.times.len) from ⟨(hy.cell (p := ⟨w.heap.size + 1, 0, none⟩) (by show w.heap.size + 1 < _; omega)).trans (Lib.cell_of_heap hqP 0), (hy.cell (p := ⟨w.heap.size + 1, 1, none⟩) (by show w.heap.size + 1 < _; omega)).trans (Lib.cell_of_heap hqP 1), (hy.cell (p := ⟨w.heap.size + 1, 2, none⟩) (by show w.heap.size + 1 < _; omega)).trans (Lib.cell_of_heap hqP 2), (hy.cell (p := ⟨w.heap.size + 1, 3, none⟩) (by show w.heap.size + 1 < _; omega)).trans (Lib.cell_of_heap hqP 3), (hy.cell (p := ⟨w.heap.size + 2, 0, none⟩) (by show w.heap.size + 2 < _; omega)).trans (Lib.cell_of_heap hqD 0), (hy.cell (p := ⟨w.heap.size + 2, 1, none⟩) (by show w.heap.size + 2 < _; omega)).trans (Lib.cell_of_heap hqD 1), (hy.cell (p := ⟨w.heap.size + 2, 2, none⟩) (by show w.heap.size + 2 < _; omega)).trans (Lib.cell_of_heap hqD 2), (hy.cell (p := ⟨w.heap.size + 2, 3, none⟩) (by show w.heap.size + 2 < _; omega)).trans (Lib.cell_of_heap hqD 3), (hy.cell (p := ⟨w.heap.size + 2, 4, none⟩) (by show w.heap.size + 2 < _; omega)).trans (Lib.cell_of_heap hqD 4), (hy.cell (p := ⟨w.heap.size + 2, 5, none⟩) (by show w.heap.size + 2 < _; omega)).trans (Lib.cell_of_heap hqD 5), (hy.cell (p := ⟨w.heap.size + 2, 6, none⟩) (by show w.heap.size + 2 < _; omega)).trans (Lib.cell_of_heap hqD 6), (hy.cell (p := ⟨w.heap.size + 3, 0, none⟩) (by show w.heap.size + 3 < _; omega)).trans (Lib.cell_of_heap hqR 0), (hy.cell (p := ⟨w.heap.size + 3, 1, none⟩) (by show w.heap.size + 3 < _; omega)).trans (Lib.cell_of_heap hqR 1), (hy.cell (p := ⟨w.heap.size + 3, 2, none⟩) (by show w.heap.size + 3 < _; omega)).trans (Lib.cell_of_heap hqR 2), (hy.cell (p := ⟨w.heap.size + 3, 3, none⟩) (by show w.heap.size + 3 < _; omega)).trans (Lib.cell_of_heap hqR 3), (hy.cell (p := ⟨w.heap.size + 4, 0, none⟩) (by show w.heap.size + 4 < _; omega)).trans (Lib.cell_of_heap hqT 0), (hy.cell (p := ⟨w.heap.size + 4, 1, none⟩) (by show w.heap.size + 4 < _; omega)).trans (Lib.cell_of_heap hqT 1), (hy.cell (p := ⟨w.heap.size + 4, 2, none⟩) (by show w.heap.size + 4 < _; omega)).trans (Lib.cell_of_heap hqT 2), (hy.cell (p := ⟨w.heap.size + 4, 3, none⟩) (by show w.heap.size + 4 < _; omega)).trans (Lib.cell_of_heap hqT 3), (hy.cell (p := ⟨w.heap.size + 4, 4, none⟩) (by show w.heap.size + 4 < _; omega)).trans (Lib.cell_of_heap hqT 4), (hy.cell (p := ⟨w.heap.size + 5, 0, none⟩) (by show w.heap.size + 5 < _; omega)).trans (Lib.cell_of_heap hqH 0), (hy.cell (p := ⟨w.heap.size + 5, 1, none⟩) (by show w.heap.size + 5 < _; omega)).trans (Lib.cell_of_heap hqH 1), (hy.cell (p := ⟨w.heap.size + 5, 2, none⟩) (by show w.heap.size + 5 < _; omega)).trans (Lib.cell_of_heap hqH 2), (hy.cell (p := ⟨w.heap.size + 5, 3, none⟩) (by show w.heap.size + 5 < _; omega)).trans (Lib.cell_of_heap hqH 3), (hy.cell (p := ⟨w.heap.size + 5, 4, none⟩) (by show w.heap.size + 5 < _; omega)).trans (Lib.cell_of_heap hqH 4)⟩))
  clear hqX hqP hqD hqR hqT hqH lt6 hz6
  have HG1 := Lib.hid (HG.out.below_ hb1)
  have HR1 := Lib.hid (HGR.out.2.1.below_ hb1)
  have HT1 := Lib.hid (HT.out.below hb1)
  have HP1 := Lib.hid (HP.out.below hb1)
  clear HG HT HP hb1
  go_wp2_with fail
  refine (lives_any w1 HP1.out).mono ?_
  rintro e w2 ⟨rfl, hb⟩
  have HB2 := Lib.hid hb
  clear hb
  obtain ⟨x0, x1, x2, x3, x4, x5, x6⟩ := HCX.out w2 HB2.out
  have HLI := Lib.hid (HV.out ▸ light_any w2 x (HG1.out.below_ HB2.out))
  go_upto_region 3 with fail
  go_wp2_with fail
  refine HLI.out.mono ?_
  clear HLI x0 x1 x2 x3 x4 x5 x6
  rintro e w3 ⟨rfl, hb⟩
  have HB3 := Lib.hid (HB2.out.trans (hb.mono HB2.out.size))
  clear hb HB2
  cases hl : lightD x.d 60
  · go_wp2_with fail
    go_ret
    exact ⟨rfl, HB1.out.trans (HB3.out.mono HB1.out.size)⟩
  obtain ⟨pc0, pc1, pc2, pc3, dc0, dc1, dc2, dc3, dc4, dc5, dc6, rc0, rc1, rc2, rc3, tc0, tc1, tc2, tc3, tc4, hc0, hc1, hc2, hc3, hc4⟩ := HC.out w3 HB3.out
  have HLR := Lib.hid (HVR2.out ▸ lightR_any w3 r 60 (HR1.out.below_ HB3.out))
  go_wp2_with fail
  refine HLR.out.mono ?_
  clear HLR pc0 pc1 pc2 pc3 dc0 dc1 dc2 dc3 dc4 dc5 dc6 rc0 rc1 rc2 rc3 tc0 tc1 tc2 tc3 tc4 hc0 hc1 hc2 hc3 hc4
  rintro e w4 ⟨rfl, hb⟩
  have HB4 := Lib.hid (HB3.out.trans (hb.mono HB3.out.size))
  clear hb HB3
  cases hlr : lightR r.d 60
  · go_wp2_with fail
    go_ret
    exact ⟨rfl, HB1.out.trans (HB4.out.mono HB1.out.size)⟩
  have HL := Lib.hid hl
  have HLR := Lib.hid hlr
  clear hl hlr
  obtain ⟨x0, x1, x2, x3, x4, x5, x6⟩ := HCX.out w4 HB4.out
  have HOW := Lib.hid (HV.out ▸ ownSheet_any w4 x (HG1.out.below_ HB4.out) (light_few HL.out))
  go_wp2_with fail
  refine HOW.out.mono ?_
  clear HOW x0 x1 x2 x3 x4 x5 x6
  rintro e w5 ⟨y, rfl, hy⟩
  have HB5 := Lib.hid (HB4.out.trans (hy.below.mono HB4.out.size))
  have htx := text_comb w5 y hy.good (by rw [hy.d]; exact HL.out) (HT1.out.below HB5.out) (HP1.out.below HB5.out) (by rw [hy.d]; exact HM.out)
  rw [hy.d] at htx
  have htz := fun W hb => HV.out ▸ ztext_comb W x (HG1.out.below_ hb) HL.out HM.out
  have hlx := fun W hb => HV.out ▸ lines_comb W x (HG1.out.below_ hb) HL.out (HT1.out.below hb) (HP1.out.below hb) HM.out
  have hlz := fun W hb => HV.out ▸ zlines_comb W x (HG1.out.below_ hb) HL.out HM.out
  have hln := lV_len (light_few HL.out)
  obtain ⟨q, hq⟩ : ∃ q, checkD x.d = q := ⟨_, rfl⟩
  obtain ⟨S, hS⟩ : ∃ S, ba (tV x.d) = S := ⟨_, rfl⟩
  obtain ⟨L, hL⟩ : ∃ L, lV x.d = L := ⟨_, rfl⟩
  rw [hq, hS] at htx
  simp only [hq, hS] at htz
  simp only [hq, hL] at hlx hlz
  rw [hL] at hln
  have HTZ := Lib.hid htz
  have HLX := Lib.hid hlx
  have HLZ := Lib.hid hlz
  have HLN := Lib.hid hln
  clear hq hS hL hy HB4 htz hlx hlz hln
  go_wp2_with fail
  refine htx.mono ?_
  clear htx
  rintro e w6 ⟨rfl, hb⟩
  have HB6 := Lib.hid (HB5.out.trans (hb.mono HB5.out.size))
  clear hb HB5
  obtain ⟨x0, x1, x2, x3, x4, x5, x6⟩ := HCX.out w6 HB6.out
  go_wp2_with fail
  refine (HTZ.out w6 HB6.out).mono ?_
  clear HTZ x0 x1 x2 x3 x4 x5 x6
  rintro e w7 ⟨rfl, hb⟩
  have HB7 := Lib.hid (HB6.out.trans (hb.mono HB6.out.size))
  clear hb HB6
  obtain ⟨x0, x1, x2, x3, x4, x5, x6⟩ := HCX.out w7 HB7.out
  go_wp2_with fail
  refine (HLX.out w7 HB7.out).mono ?_
  clear HLX x0 x1 x2 x3 x4 x5 x6
  rintro e w8 ⟨va, rfl, hsa, hb⟩
  have HB8 := Lib.hid (HB7.out.trans (hb.mono HB7.out.size))
  obtain ⟨Av, cv, rfl, _, _⟩ := hsa.shape
  have HSA := Lib.hid hsa
  clear hb HB7 hsa
  obtain ⟨x0, x1, x2, x3, x4, x5, x6⟩ := HCX.out w8 HB8.out
  go_wp2_with fail
  refine (HLZ.out w8 HB8.out).mono ?_
  clear HLZ x0 x1 x2 x3 x4 x5 x6
  rintro e w9 ⟨vb, rfl, hsb, hb⟩
  have HB9 := Lib.hid (HB8.out.trans (hb.mono HB8.out.size))
  obtain ⟨Bv, cw, rfl, _, _⟩ := hsb.shape
  have HSB := Lib.hid hsb
  have HSA9 := Lib.hid (HSA.out.below_ hb)
  clear hb HB8 hsb HSA
  go_upto_region 9 with fail
  have hSw : Below w1.heap.size w1 w9 := HB9.out
  refine wp_region_kinds (fun wy => Below w1.heap.size w1 wy) [11, 20, 22, 27, 29, 34, 36, 41, 43, 48, 50] [] [19, 21, 26, 28, 33, 35, 40, 42, 47, 49] [0, 1, 2, 3, 4, 5, 6, 7, 8, 9, 10, 12, 13, 14, 15, 16, 17, 18, 23, 24, 25, 30, 31, 32, 37, 38, 39, 44, 45, 46, 51, 52, 53] [0, 1, 2, 3, 4, 5, 6, 7, 8, 9, 10, 11, 12, 13, 14, 15, 16, 17, 18, 19, 21, 20, 22, 23, 24, 25, 26, 28, 27, 29, 30, 31, 32, 33, 35, 34, 36, 37, 38, 39, 40, 42, 41, 43, 44, 45, 46, 47, 49, 48, 50, 51, 52, 53] (by kernel_rfl) (by kernel_rfl) (fun w n h => below_drewN h n) ?_
  repeat (first | (refine wpKind_free (v := ?_) (by rfl) rfl (by rfl) ?_ ?_; rotate_left 1; (focus (intro wy; go_simp; try with_reducible rfl; done)); try simp only [Act.put, List.setIfInBounds_toArray, List.set_cons_zero, List.set_cons_succ]) | (refine wpKind_held (v := ?_) (by rfl) rfl (by rfl) hSw ?_ ?_; rotate_left 1; (focus (intro wy hSy; obtain ⟨pc0, pc1, pc2, pc3, dc0, dc1, dc2, dc3, dc4, dc5, dc6, rc0, rc1, rc2, rc3, tc0, tc1, tc2, tc3, tc4, hc0, hc1, hc2, hc3, hc4⟩ := HC.out wy hSy; go_simp; try with_reducible rfl; done)); try simp only [Act.put, List.setIfInBounds_toArray, List.set_cons_zero, List.set_cons_succ]))
  refine wpKind_keeps (by rfl) rfl (fun n0 => ?_)
  go_wp2_with fail
  have hsm := sameStr_self (.slice Av L.length cv) (.slice Bv L.length cw) L (w9.drewN n0) (HSA9.out.below_ (below_drewN (Below.refl _ _) n0)) (HSB.out.below_ (below_drewN (Below.refl _ _) n0)) HLN.out
  refine hsm.mono ?_
  clear hsm
  rintro e u0 ⟨rfl, hq⟩
  have hS2 : Below w1.heap.size w1 u0 := by
    obtain ⟨m1, rfl⟩ := hq
    exact below_drewN (below_drewN hSw n0) m1
  clear hSw hq
  go_wp2_with fail
  show _ ∧ _
  refine ⟨hS2, ?_⟩
  have hSw := hS2
  clear hS2
  repeat (first | (refine wpKind_free (v := ?_) (by rfl) rfl (by rfl) ?_ ?_; rotate_left 1; (focus (intro wy; go_simp; try with_reducible rfl; done)); try simp only [Act.put, List.setIfInBounds_toArray, List.set_cons_zero, List.set_cons_succ]) | (refine wpKind_held (v := ?_) (by rfl) rfl (by rfl) hSw ?_ ?_; rotate_left 1; (focus (intro wy hSy; obtain ⟨pc0, pc1, pc2, pc3, dc0, dc1, dc2, dc3, dc4, dc5, dc6, rc0, rc1, rc2, rc3, tc0, tc1, tc2, tc3, tc4, hc0, hc1, hc2, hc3, hc4⟩ := HC.out wy hSy; go_simp; try with_reducible rfl; done)); try simp only [Act.put, List.setIfInBounds_toArray, List.set_cons_zero, List.set_cons_succ]))
  refine wpKind_keeps (by rfl) rfl (fun n1 => ?_)
  go_wp2_with fail
  have hsm : Calls Tryz.prog 15 #[.agg #[.string (ba p.name), .string (ba p.a), .string (ba p.b), .int .i64 p.len]] (u0.drewN n1) fun e w' => e = .returned (.string (ba (pathL p))) ∧ Below (u0.drewN n1).heap.size (u0.drewN n1) w' := path_any (u0.drewN n1) p (HP1.out.below (below_drewN hSw n1)) HGP.out.2.2.2 (pathL_leC HBP.out HGP.out.2.2.2)
  refine hsm.mono ?_
  clear hsm
  rintro e u1 ⟨rfl, hb⟩
  have hS2 : Below w1.heap.size w1 u1 := (below_drewN hSw n1).trans (hb.mono (by exact hSw.size))
  clear hb hSw
  go_wp2_with fail
  show _ ∧ _
  refine ⟨hS2, ?_⟩
  have hSw := hS2
  clear hS2
  repeat (first | (refine wpKind_free (v := ?_) (by rfl) rfl (by rfl) ?_ ?_; rotate_left 1; (focus (intro wy; go_simp; try with_reducible rfl; done)); try simp only [Act.put, List.setIfInBounds_toArray, List.set_cons_zero, List.set_cons_succ]) | (refine wpKind_held (v := ?_) (by rfl) rfl (by rfl) hSw ?_ ?_; rotate_left 1; (focus (intro wy hSy; obtain ⟨pc0, pc1, pc2, pc3, dc0, dc1, dc2, dc3, dc4, dc5, dc6, rc0, rc1, rc2, rc3, tc0, tc1, tc2, tc3, tc4, hc0, hc1, hc2, hc3, hc4⟩ := HC.out wy hSy; go_simp; try with_reducible rfl; done)); try simp only [Act.put, List.setIfInBounds_toArray, List.set_cons_zero, List.set_cons_succ]))
  refine wpKind_keeps (by rfl) rfl (fun n2 => ?_)
  go_wp2_with fail
  have hsm : Calls Tryz.prog 16 #[.agg #[.string (ba p.name), .string (ba p.a), .string (ba p.b), .int .i64 p.len]] (u1.drewN n2) fun e w' => e = .returned (.string (ba (pathL p))) ∧ Below (u1.drewN n2).heap.size (u1.drewN n2) w' := zpath_any (u1.drewN n2) p HBP.out.1 HBP.out.2.1 HBP.out.2.2 HGP.out.2.2.2
  refine hsm.mono ?_
  clear hsm
  rintro e u2 ⟨rfl, hb⟩
  have hS2 : Below w1.heap.size w1 u2 := (below_drewN hSw n2).trans (hb.mono (by exact hSw.size))
  clear hb hSw
  go_wp2_with fail
  show _ ∧ _
  refine ⟨hS2, ?_⟩
  have hSw := hS2
  clear hS2
  repeat (first | (refine wpKind_free (v := ?_) (by rfl) rfl (by rfl) ?_ ?_; rotate_left 1; (focus (intro wy; go_simp; try with_reducible rfl; done)); try simp only [Act.put, List.setIfInBounds_toArray, List.set_cons_zero, List.set_cons_succ]) | (refine wpKind_held (v := ?_) (by rfl) rfl (by rfl) hSw ?_ ?_; rotate_left 1; (focus (intro wy hSy; obtain ⟨pc0, pc1, pc2, pc3, dc0, dc1, dc2, dc3, dc4, dc5, dc6, rc0, rc1, rc2, rc3, tc0, tc1, tc2, tc3, tc4, hc0, hc1, hc2, hc3, hc4⟩ := HC.out wy hSy; go_simp; try with_reducible rfl; done)); try simp only [Act.put, List.setIfInBounds_toArray, List.set_cons_zero, List.set_cons_succ]))
  refine wpKind_keeps (by rfl) rfl (fun n3 => ?_)
  go_wp2_with fail
  have hsm : Calls Tryz.prog 17 #[.agg #[.string (ba d.name), .string (ba d.a), .string (ba d.b), .int .i64 d.len, .int .i64 d.times.start, .int .i64 d.times.every, .int .i64 d.times.len]] (u2.drewN n3) fun e w' => e = .returned (.string (ba (doorL d))) ∧ Below (u2.drewN n3).heap.size (u2.drewN n3) w' := door_any (u2.drewN n3) d (HP1.out.below (below_drewN hSw n3)) HGD.out.2.2.2.1 HGD.out.2.2.2.2 (doorL_leC HBD.out HGD.out.2.2.2.1 HGD.out.2.2.2.2) (Nat.le_trans (timesL_le HGD.out.2.2.2.2 (by decide)) (by decide))
  refine hsm.mono ?_
  clear hsm
  rintro e u3 ⟨rfl, hb⟩
  have hS2 : Below w1.heap.size w1 u3 := (below_drewN hSw n3).trans (hb.mono (by exact hSw.size))
  clear hb hSw
  go_wp2_with fail
  show _ ∧ _
  refine ⟨hS2, ?_⟩
  have hSw := hS2
  clear hS2
  repeat (first | (refine wpKind_free (v := ?_) (by rfl) rfl (by rfl) ?_ ?_; rotate_left 1; (focus (intro wy; go_simp; try with_reducible rfl; done)); try simp only [Act.put, List.setIfInBounds_toArray, List.set_cons_zero, List.set_cons_succ]) | (refine wpKind_held (v := ?_) (by rfl) rfl (by rfl) hSw ?_ ?_; rotate_left 1; (focus (intro wy hSy; obtain ⟨pc0, pc1, pc2, pc3, dc0, dc1, dc2, dc3, dc4, dc5, dc6, rc0, rc1, rc2, rc3, tc0, tc1, tc2, tc3, tc4, hc0, hc1, hc2, hc3, hc4⟩ := HC.out wy hSy; go_simp; try with_reducible rfl; done)); try simp only [Act.put, List.setIfInBounds_toArray, List.set_cons_zero, List.set_cons_succ]))
  refine wpKind_keeps (by rfl) rfl (fun n4 => ?_)
  go_wp2_with fail
  have hsm : Calls Tryz.prog 18 #[.agg #[.string (ba d.name), .string (ba d.a), .string (ba d.b), .int .i64 d.len, .int .i64 d.times.start, .int .i64 d.times.every, .int .i64 d.times.len]] (u3.drewN n4) fun e w' => e = .returned (.string (ba (doorL d))) ∧ Below (u3.drewN n4).heap.size (u3.drewN n4) w' := zdoor_any (u3.drewN n4) d HBD.out.1 HBD.out.2.1 HBD.out.2.2 HGD.out.2.2.2.1 HGD.out.2.2.2.2
  refine hsm.mono ?_
  clear hsm
  rintro e u4 ⟨rfl, hb⟩
  have hS2 : Below w1.heap.size w1 u4 := (below_drewN hSw n4).trans (hb.mono (by exact hSw.size))
  clear hb hSw
  go_wp2_with fail
  show _ ∧ _
  refine ⟨hS2, ?_⟩
  have hSw := hS2
  clear hS2
  repeat (first | (refine wpKind_free (v := ?_) (by rfl) rfl (by rfl) ?_ ?_; rotate_left 1; (focus (intro wy; go_simp; try with_reducible rfl; done)); try simp only [Act.put, List.setIfInBounds_toArray, List.set_cons_zero, List.set_cons_succ]) | (refine wpKind_held (v := ?_) (by rfl) rfl (by rfl) hSw ?_ ?_; rotate_left 1; (focus (intro wy hSy; obtain ⟨pc0, pc1, pc2, pc3, dc0, dc1, dc2, dc3, dc4, dc5, dc6, rc0, rc1, rc2, rc3, tc0, tc1, tc2, tc3, tc4, hc0, hc1, hc2, hc3, hc4⟩ := HC.out wy hSy; go_simp; try with_reducible rfl; done)); try simp only [Act.put, List.setIfInBounds_toArray, List.set_cons_zero, List.set_cons_succ]))
  have hlow : r.d.Low := ⟨HBR.out.1, HBR.out.2, by
    have h := HLR.out
    unfold lightR at h
    rw [decide_eq_true_eq] at h
    omega⟩
  have hrn : r.stops.length ≤ 1000 := hlow.few
  have hrl : (routeL r.d).length ≤ 140737488355328 := Nat.le_trans (preL_len r.d hlow ⟨HGR.out.2.2.2.1, HGR.out.2.2.2.2⟩ r.d.stops.length (Nat.le_refl _)) (by decide)
  refine wpKind_keeps (by rfl) rfl (fun n5 => ?_)
  go_wp2_with fail
  have hsm : Calls Tryz.prog 19 #[.agg #[.string (ba r.name), .slice Rs r.stops.length rs, .slice Rr r.rides.length rr, .slice Ry r.stays.length ry]] (u4.drewN n5) fun e w' => e = .returned (.string (ba (routeL r.d))) ∧ Below (u4.drewN n5).heap.size (u4.drewN n5) w' := by
    have hh := route_any (u4.drewN n5) r (HR1.out.below_ (below_drewN hSw n5)) (HP1.out.below (below_drewN hSw n5)) ⟨HGR.out.2.2.2.1, HGR.out.2.2.2.2⟩ hrn hrl
    rw [HVR.out] at hh
    exact hh
  refine hsm.mono ?_
  clear hsm hrn hrl hlow
  rintro e u5 ⟨rfl, hb⟩
  have hS2 : Below w1.heap.size w1 u5 := (below_drewN hSw n5).trans (hb.mono (by exact hSw.size))
  clear hb hSw
  go_wp2_with fail
  show _ ∧ _
  refine ⟨hS2, ?_⟩
  have hSw := hS2
  clear hS2
  repeat (first | (refine wpKind_free (v := ?_) (by rfl) rfl (by rfl) ?_ ?_; rotate_left 1; (focus (intro wy; go_simp; try with_reducible rfl; done)); try simp only [Act.put, List.setIfInBounds_toArray, List.set_cons_zero, List.set_cons_succ]) | (refine wpKind_held (v := ?_) (by rfl) rfl (by rfl) hSw ?_ ?_; rotate_left 1; (focus (intro wy hSy; obtain ⟨pc0, pc1, pc2, pc3, dc0, dc1, dc2, dc3, dc4, dc5, dc6, rc0, rc1, rc2, rc3, tc0, tc1, tc2, tc3, tc4, hc0, hc1, hc2, hc3, hc4⟩ := HC.out wy hSy; go_simp; try with_reducible rfl; done)); try simp only [Act.put, List.setIfInBounds_toArray, List.set_cons_zero, List.set_cons_succ]))
  have hlow : r.d.Low := ⟨HBR.out.1, HBR.out.2, by
    have h := HLR.out
    unfold lightR at h
    rw [decide_eq_true_eq] at h
    omega⟩
  refine wpKind_keeps (by rfl) rfl (fun n6 => ?_)
  go_wp2_with fail
  have hsm : Calls Tryz.prog 20 #[.agg #[.string (ba r.name), .slice Rs r.stops.length rs, .slice Rr r.rides.length rr, .slice Ry r.stays.length ry]] (u5.drewN n6) fun e w' => e = .returned (.string (ba (routeL r.d))) ∧ Below (u5.drewN n6).heap.size (u5.drewN n6) w' := by
    have hh := zroute_any (u5.drewN n6) r (HR1.out.below_ (below_drewN hSw n6)) ⟨HGR.out.2.2.2.1, HGR.out.2.2.2.2⟩ hlow
    rw [HVR.out] at hh
    exact hh
  refine hsm.mono ?_
  clear hsm hlow
  rintro e u6 ⟨rfl, hb⟩
  have hS2 : Below w1.heap.size w1 u6 := (below_drewN hSw n6).trans (hb.mono (by exact hSw.size))
  clear hb hSw
  go_wp2_with fail
  show _ ∧ _
  refine ⟨hS2, ?_⟩
  have hSw := hS2
  clear hS2
  repeat (first | (refine wpKind_free (v := ?_) (by rfl) rfl (by rfl) ?_ ?_; rotate_left 1; (focus (intro wy; go_simp; try with_reducible rfl; done)); try simp only [Act.put, List.setIfInBounds_toArray, List.set_cons_zero, List.set_cons_succ]) | (refine wpKind_held (v := ?_) (by rfl) rfl (by rfl) hSw ?_ ?_; rotate_left 1; (focus (intro wy hSy; obtain ⟨pc0, pc1, pc2, pc3, dc0, dc1, dc2, dc3, dc4, dc5, dc6, rc0, rc1, rc2, rc3, tc0, tc1, tc2, tc3, tc4, hc0, hc1, hc2, hc3, hc4⟩ := HC.out wy hSy; go_simp; try with_reducible rfl; done)); try simp only [Act.put, List.setIfInBounds_toArray, List.set_cons_zero, List.set_cons_succ]))
  refine wpKind_keeps (by rfl) rfl (fun n7 => ?_)
  go_wp2_with fail
  have hsm : Calls Tryz.prog 21 #[.agg #[.string (ba t.name), .string (ba t.route), .int .i64 t.start, .int .i64 t.every, .int .i64 t.stop]] (u6.drewN n7) fun e w' => e = .returned (.string (ba (tripL t))) ∧ Below (u6.drewN n7).heap.size (u6.drewN n7) w' := trip_any (u6.drewN n7) t (HP1.out.below (below_drewN hSw n7)) HGT.out.2.2.1 HGT.out.2.2.2.1 HGT.out.2.2.2.2 (tripL_leC HBT.out HGT.out.2.2.1 HGT.out.2.2.2.1 HGT.out.2.2.2.2)
  refine hsm.mono ?_
  clear hsm
  rintro e u7 ⟨rfl, hb⟩
  have hS2 : Below w1.heap.size w1 u7 := (below_drewN hSw n7).trans (hb.mono (by exact hSw.size))
  clear hb hSw
  go_wp2_with fail
  show _ ∧ _
  refine ⟨hS2, ?_⟩
  have hSw := hS2
  clear hS2
  repeat (first | (refine wpKind_free (v := ?_) (by rfl) rfl (by rfl) ?_ ?_; rotate_left 1; (focus (intro wy; go_simp; try with_reducible rfl; done)); try simp only [Act.put, List.setIfInBounds_toArray, List.set_cons_zero, List.set_cons_succ]) | (refine wpKind_held (v := ?_) (by rfl) rfl (by rfl) hSw ?_ ?_; rotate_left 1; (focus (intro wy hSy; obtain ⟨pc0, pc1, pc2, pc3, dc0, dc1, dc2, dc3, dc4, dc5, dc6, rc0, rc1, rc2, rc3, tc0, tc1, tc2, tc3, tc4, hc0, hc1, hc2, hc3, hc4⟩ := HC.out wy hSy; go_simp; try with_reducible rfl; done)); try simp only [Act.put, List.setIfInBounds_toArray, List.set_cons_zero, List.set_cons_succ]))
  refine wpKind_keeps (by rfl) rfl (fun n8 => ?_)
  go_wp2_with fail
  have hsm : Calls Tryz.prog 22 #[.agg #[.string (ba t.name), .string (ba t.route), .int .i64 t.start, .int .i64 t.every, .int .i64 t.stop]] (u7.drewN n8) fun e w' => e = .returned (.string (ba (tripL t))) ∧ Below (u7.drewN n8).heap.size (u7.drewN n8) w' := ztrip_any (u7.drewN n8) t HBT.out.1 HBT.out.2 HGT.out.2.2.1 HGT.out.2.2.2.1 HGT.out.2.2.2.2
  refine hsm.mono ?_
  clear hsm
  rintro e u8 ⟨rfl, hb⟩
  have hS2 : Below w1.heap.size w1 u8 := (below_drewN hSw n8).trans (hb.mono (by exact hSw.size))
  clear hb hSw
  go_wp2_with fail
  show _ ∧ _
  refine ⟨hS2, ?_⟩
  have hSw := hS2
  clear hS2
  repeat (first | (refine wpKind_free (v := ?_) (by rfl) rfl (by rfl) ?_ ?_; rotate_left 1; (focus (intro wy; go_simp; try with_reducible rfl; done)); try simp only [Act.put, List.setIfInBounds_toArray, List.set_cons_zero, List.set_cons_succ]) | (refine wpKind_held (v := ?_) (by rfl) rfl (by rfl) hSw ?_ ?_; rotate_left 1; (focus (intro wy hSy; obtain ⟨pc0, pc1, pc2, pc3, dc0, dc1, dc2, dc3, dc4, dc5, dc6, rc0, rc1, rc2, rc3, tc0, tc1, tc2, tc3, tc4, hc0, hc1, hc2, hc3, hc4⟩ := HC.out wy hSy; go_simp; try with_reducible rfl; done)); try simp only [Act.put, List.setIfInBounds_toArray, List.set_cons_zero, List.set_cons_succ]))
  refine wpKind_keeps (by rfl) rfl (fun n9 => ?_)
  go_wp2_with fail
  have hsm : Calls Tryz.prog 23 #[.agg #[.string (ba h.name), .string (ba h.on), .int .i64 h.times.start, .int .i64 h.times.every, .int .i64 h.times.len]] (u8.drewN n9) fun e w' => e = .returned (.string (ba (hazL h))) ∧ Below (u8.drewN n9).heap.size (u8.drewN n9) w' := haz_any (u8.drewN n9) h (HP1.out.below (below_drewN hSw n9)) HGH.out.2.2 (hazL_leC HBH.out HGH.out.2.2) (Nat.le_trans (timesL_le HGH.out.2.2 (by decide)) (by decide))
  refine hsm.mono ?_
  clear hsm
  rintro e u9 ⟨rfl, hb⟩
  have hS2 : Below w1.heap.size w1 u9 := (below_drewN hSw n9).trans (hb.mono (by exact hSw.size))
  clear hb hSw
  go_wp2_with fail
  show _ ∧ _
  refine ⟨hS2, ?_⟩
  have hSw := hS2
  clear hS2
  repeat (first | (refine wpKind_free (v := ?_) (by rfl) rfl (by rfl) ?_ ?_; rotate_left 1; (focus (intro wy; go_simp; try with_reducible rfl; done)); try simp only [Act.put, List.setIfInBounds_toArray, List.set_cons_zero, List.set_cons_succ]) | (refine wpKind_held (v := ?_) (by rfl) rfl (by rfl) hSw ?_ ?_; rotate_left 1; (focus (intro wy hSy; obtain ⟨pc0, pc1, pc2, pc3, dc0, dc1, dc2, dc3, dc4, dc5, dc6, rc0, rc1, rc2, rc3, tc0, tc1, tc2, tc3, tc4, hc0, hc1, hc2, hc3, hc4⟩ := HC.out wy hSy; go_simp; try with_reducible rfl; done)); try simp only [Act.put, List.setIfInBounds_toArray, List.set_cons_zero, List.set_cons_succ]))
  refine wpKind_keeps (by rfl) rfl (fun n10 => ?_)
  go_wp2_with fail
  have hsm : Calls Tryz.prog 24 #[.agg #[.string (ba h.name), .string (ba h.on), .int .i64 h.times.start, .int .i64 h.times.every, .int .i64 h.times.len]] (u9.drewN n10) fun e w' => e = .returned (.string (ba (hazL h))) ∧ Below (u9.drewN n10).heap.size (u9.drewN n10) w' := zhaz_any (u9.drewN n10) h HBH.out.1 HBH.out.2 HGH.out.2.2
  refine hsm.mono ?_
  clear hsm
  rintro e u10 ⟨rfl, hb⟩
  have hS2 : Below w1.heap.size w1 u10 := (below_drewN hSw n10).trans (hb.mono (by exact hSw.size))
  clear hb hSw
  go_wp2_with fail
  show _ ∧ _
  refine ⟨hS2, ?_⟩
  have hSw := hS2
  clear hS2
  repeat (first | (refine wpKind_free (v := ?_) (by rfl) rfl (by rfl) ?_ ?_; rotate_left 1; (focus (intro wy; go_simp; try with_reducible rfl; done)); try simp only [Act.put, List.setIfInBounds_toArray, List.set_cons_zero, List.set_cons_succ]) | (refine wpKind_held (v := ?_) (by rfl) rfl (by rfl) hSw ?_ ?_; rotate_left 1; (focus (intro wy hSy; obtain ⟨pc0, pc1, pc2, pc3, dc0, dc1, dc2, dc3, dc4, dc5, dc6, rc0, rc1, rc2, rc3, tc0, tc1, tc2, tc3, tc4, hc0, hc1, hc2, hc3, hc4⟩ := HC.out wy hSy; go_simp; try with_reducible rfl; done)); try simp only [Act.put, List.setIfInBounds_toArray, List.set_cons_zero, List.set_cons_succ]))
  refine wpKind_nil fun n99 => ?_
  go_wp2_with fail
  go_ret
  exact ⟨rfl, HB1.out.trans ((below_drewN hSw n99).mono HB1.out.size)⟩
end Go.Proofs.YtmihinhbcncbfaaGreatDoor
