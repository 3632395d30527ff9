/- The walk of sheet.Check, at a sheet that is not too long. -/
import Derived.Test.YtmihinhbcncbfaaGreatDoorSj
namespace Go.Proofs.YtmihinhbcncbfaaGreatDoor
open Go.RowKit

theorem names_bound (x : SheetM) (hf : x.Few) : (namesD x.d).length ≤ 10000000 := by
  rw [← names_eq, List.length_append]
  have h1 := nm4_len x hf
  have h2 := flat_le (fun h : HazD => [h.name, h.on]) 2 x.hazs (fun _ _ => Nat.le_refl _) 1024 hf.hazs
  omega
theorem nums_bound (x : SheetM) (hf : x.Few) : (numsD x.d).length ≤ 10000000 := by
  rw [← nums_eq, List.length_append]
  have h1 := nn4_len x hf
  have h2 := flat_le (fun h : HazD => timesN h.times) 3 x.hazs (fun _ _ => Nat.le_refl _) 1024 hf.hazs
  omega
theorem any_routes (x : SheetM) : x.d.routes.any (fun r => !okR r) = x.routes.any (fun r => !okR r.d) := by
  show (x.routes.map RouteM.d).any _ = _
  rw [List.any_map]; rfl
theorem not_long {x : SheetM} (h : longD x.d = false) : x.stops.length ≤ 256 ∧ x.paths.length ≤ 1024 ∧ x.doors.length ≤ 256 ∧ x.routes.length ≤ 256 ∧ x.trips.length ≤ 1024 ∧ x.hazs.length ≤ 256 := by
  unfold longD at h
  rw [decide_eq_false_iff_not] at h
  have : x.d.routes.length = x.routes.length := List.length_map ..
  rw [this] at h
  have e1 : x.d.stops = x.stops := rfl
  have e2 : x.d.paths = x.paths := rfl
  have e3 : x.d.doors = x.doors := rfl
  have e4 : x.d.trips = x.trips := rfl
  have e5 : x.d.hazs = x.hazs := rfl
  rw [e1, e2, e3, e4, e5] at h
  omega
set_option maxHeartbeats 2000000 in
set_option maxRecDepth 100000 in
theorem check_any (w : World) (x : SheetM) {P : Nat → Prop} (hg : x.Good w P) (hf : x.Few) (hl : longD x.d = false) (hT : Tabs w) (hm : ∀ s ∈ namesD x.d, s.length ≤ maxLen) :
    Calls Tryz.prog 37 #[x.v] w fun e w' => e = .returned (.int .i64 (checkD x.d)) ∧ Below w.heap.size w w' := by
  obtain ⟨l1, l2, l3, l4, l5, l6⟩ := not_long hl
  obtain ⟨w1, hw1⟩ : ∃ w1, w.alloc (.cells x.c.toArray 29) = w1 := ⟨_, rfl⟩
  have hS1 : SheetAt w.heap.size x w1 := by rw [← hw1]; exact SheetAt.of (heap_alloc_new _ _)
  have hb1 : Below w.heap.size w w1 := by rw [← hw1]; exact (Below.refl _ _).alloc (Nat.le_refl _) _
  have hlt : w.heap.size < w1.heap.size := by rw [← hw1]; simp
  have HB1 := Lib.hid hb1
  have HG1 := Lib.hid (hg.below_ hb1)
  have HS1 := Lib.hid hS1
  have HLT := Lib.hid hlt
  have HF := Lib.hid hf
  have HT1 := Lib.hid (hT.below hb1)
  have HM := Lib.hid hm
  have HNB := Lib.hid (names_bound x hf)
  have HUB := Lib.hid (nums_bound x hf)
  obtain ⟨As, cs, es, _, _⟩ := hg.stops.shape
  obtain ⟨Ap, cp, ep, _, _⟩ := hg.paths.shape
  obtain ⟨Ad, cd, ed, _, _⟩ := hg.doors.shape
  obtain ⟨Ar, cr, er, _, _⟩ := hg.routes.shape
  obtain ⟨At, ct, et, _, _⟩ := hg.trips.shape
  obtain ⟨Ah, ch, eh, _, _⟩ := hg.hazs.shape
  have cells : ∀ wx, SheetAt w.heap.size x wx → wx.cell? ⟨w.heap.size, 0, none⟩ = some (.int .i64 x.hor) ∧ wx.cell? ⟨w.heap.size, 1, none⟩ = some (.slice As x.stops.length cs) ∧ wx.cell? ⟨w.heap.size, 2, none⟩ = some (.slice Ap x.paths.length cp) ∧ wx.cell? ⟨w.heap.size, 3, none⟩ = some (.slice Ad x.doors.length cd) ∧ wx.cell? ⟨w.heap.size, 4, none⟩ = some (.slice Ar x.routes.length cr) ∧ wx.cell? ⟨w.heap.size, 5, none⟩ = some (.slice At x.trips.length ct) ∧ wx.cell? ⟨w.heap.size, 6, none⟩ = some (.slice Ah x.hazs.length ch) := by
    rintro wx ⟨s0, s1, s2, s3, s4, s5, s6⟩
    rw [es] at s1
    rw [ep] at s2
    rw [ed] at s3
    rw [er] at s4
    rw [et] at s5
    rw [eh] at s6
    exact ⟨s0, s1, s2, s3, s4, s5, s6⟩
  have CELLS := Lib.hid cells
  have hv : x.v = .agg #[.int .i64 x.hor, .slice As x.stops.length cs, .slice Ap x.paths.length cp, .slice Ad x.doors.length cd, .slice Ar x.routes.length cr, .slice At x.trips.length ct, .slice Ah x.hazs.length ch] := by
    unfold SheetM.v; rw [es, ep, ed, er, et, eh]
  have HNM := Lib.hid (fun w3 (h3 : x.Good w3 P) => hv ▸ names_any w3 x h3 hf)
  have HNU := Lib.hid (fun w3 (h3 : x.Good w3 P) => hv ▸ numbers_any w3 x h3 hf)
  have HER := Lib.hid er
  unfold SheetM.c at hw1
  rw [es, ep, ed, er, et, eh] at hw1
  rw [hv]
  have r1 : decide ((256 : Int) < (x.stops.length : Int)) = false := decide_eq_false (by omega)
  have r2 : decide ((1024 : Int) < (x.paths.length : Int)) = false := decide_eq_false (by omega)
  have r3 : decide ((256 : Int) < (x.doors.length : Int)) = false := decide_eq_false (by omega)
  have r4 : decide ((256 : Int) < (x.routes.length : Int)) = false := decide_eq_false (by omega)
  have r5 : decide ((1024 : Int) < (x.trips.length : Int)) = false := decide_eq_false (by omega)
  have r6 : decide ((256 : Int) < (x.hazs.length : Int)) = false := decide_eq_false (by omega)
  have q1 : decide (256 < x.stops.length) = false := decide_eq_false (by omega)
  have q2 : decide (1024 < x.paths.length) = false := decide_eq_false (by omega)
  have q3 : decide (256 < x.doors.length) = false := decide_eq_false (by omega)
  have q4 : decide (256 < x.routes.length) = false := decide_eq_false (by omega)
  have q5 : decide (1024 < x.trips.length) = false := decide_eq_false (by omega)
  have q6 : decide (256 < x.hazs.length) = false := decide_eq_false (by omega)
  obtain ⟨c0, c1, c2, c3, c4, c5, c6⟩ := cells w1 hS1
  have HCK := Lib.hid (show checkD x.d = if (namesD x.d).any (fun s => !Nm.name s) = true then 7 else if (numsD x.d).any (fun n => !okN n) = true then 9 else if x.routes.any (fun r => !okR r.d) = true then 2 else 0 by
    unfold checkD; rw [if_neg (by rw [hl]; decide), any_routes])
  clear es ep ed er et eh hS1 hb1 hlt hf hg cells hT hm hv hl
  go_enter Tryz.func37, Tryz.ntmps37
  go_wp2_with fail
  refine (HNM.out w1 HG1.out).mono ?_
  rintro e w2 ⟨v2, rfl, ho2, hb2⟩
  have HB2 := Lib.hid hb2
  have HC2 := Lib.hid (cont_str w2 v2 (namesD x.d) (ho2.sl nc_len) (Nat.le_trans HNB.out (by decide)) (HT1.out.below hb2) HM.out)
  obtain ⟨A2, n2, p2, rfl⟩ := ow_form ho2
  have HT2 := Lib.hid (HT1.out.below hb2)
  have HG2 := Lib.hid (HG1.out.below_ hb2)
  clear ho2 hb2 c0 c1 c2 c3 c4 c5 c6
  go_wp2_with fail
  refine HC2.out.mono ?_
  rintro e w3 ⟨rfl, hb3⟩
  have HB3 := Lib.hid (HB2.out.trans (hb3.mono HB2.out.size))
  have HG3 := Lib.hid (HG2.out.below_ hb3)
  clear hb3
  obtain ⟨c0, c1, c2, c3, c4, c5, c6⟩ := CELLS.out w3 (HS1.out.below HB3.out HLT.out)
  cases a1 : (namesD x.d).any (fun s => !Nm.name s)
  · have HA1 := Lib.hid a1
    clear a1
    go_wp2_with fail
    refine (HNU.out w3 HG3.out).mono ?_
    rintro e w4 ⟨v4, rfl, ho4, hb4⟩
    have HB4 := Lib.hid (HB3.out.trans (hb4.mono HB3.out.size))
    have HC4 := Lib.hid (cont_i64 w4 v4 (numsD x.d) (ho4.sl ic_len) (Nat.le_trans HUB.out (by decide)))
    obtain ⟨A4, n4, p4, rfl⟩ := ow_form ho4
    have HG4 := Lib.hid (HG3.out.below_ hb4)
    clear ho4 hb4 c0 c1 c2 c3 c4 c5 c6
    go_wp2_with fail
    refine HC4.out.mono ?_
    rintro e w5 ⟨rfl, hb5⟩
    have HB5 := Lib.hid (HB4.out.trans (hb5.mono HB4.out.size))
    have HG5 := Lib.hid (HG4.out.below_ hb5)
    clear hb5
    obtain ⟨c0, c1, c2, c3, c4, c5, c6⟩ := CELLS.out w5 (HS1.out.below HB5.out HLT.out)
    cases a2 : (numsD x.d).any (fun n => !okN n)
    · have HA2 := Lib.hid a2
      clear a2
      have HC6 := Lib.hid (cont_route w5 (.slice Ar x.routes.length cr) x.routes (by rw [← HER.out]; exact HG5.out.routes) (by omega) (fun r hr => ⟨HG5.out.each r hr, (HF.out.each r hr).1⟩))
      go_wp2_with fail
      refine HC6.out.mono ?_
      rintro e w6 ⟨rfl, hb6⟩
      have HB6 := Lib.hid (HB1.out.trans ((HB5.out.trans (hb6.mono HB5.out.size)).mono HB1.out.size))
      clear hb6
      cases a3 : x.routes.any (fun r => !okR r.d)
      · have HA3 := Lib.hid a3
        clear a3
        go_wp2_with fail
        go_ret
        refine ⟨ret_i64 ?_, HB6.out⟩
        rw [HCK.out, HA1.out, HA2.out, HA3.out]; rfl
      · have HA3 := Lib.hid a3
        clear a3
        go_wp2_with fail
        go_ret
        refine ⟨ret_i64 ?_, HB6.out⟩
        rw [HCK.out, HA1.out, HA2.out, HA3.out]; rfl
    · have HA2 := Lib.hid a2
      clear a2
      go_wp2_with fail
      go_ret
      refine ⟨ret_i64 ?_, HB1.out.trans (HB5.out.mono HB1.out.size)⟩
      rw [HCK.out, HA1.out, HA2.out]; rfl
  · have HA1 := Lib.hid a1
    clear a1
    go_wp2_with fail
    go_ret
    refine ⟨ret_i64 ?_, HB1.out.trans (HB3.out.mono HB1.out.size)⟩
    rw [HCK.out, HA1.out]; rfl
end Go.Proofs.YtmihinhbcncbfaaGreatDoor
