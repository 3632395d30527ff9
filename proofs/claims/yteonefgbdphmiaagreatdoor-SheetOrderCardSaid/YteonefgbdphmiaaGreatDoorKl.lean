/- The walks of LightRoute, LightSheet and Things. -/
import Derived.Test.YteonefgbdphmiaaGreatDoorSn
namespace Go.Proofs.YteonefgbdphmiaaGreatDoor
open Go.RowKit

def lightR (r : RouteD) (m : Nat) : Bool := decide (r.stops.length ≤ m ∧ r.rides.length ≤ m ∧ r.stays.length ≤ m)
def fewD (x : SheetD) (m : Nat) : Bool := decide (x.stops.length ≤ m ∧ x.paths.length ≤ m ∧ x.doors.length ≤ m ∧ x.routes.length ≤ m ∧ x.trips.length ≤ m ∧ x.hazs.length ≤ m)
def lightD (x : SheetD) (m : Nat) : Bool := fewD x m && x.routes.all fun r => lightR r 60
def RouteM.v (r : RouteM) : Value := .agg #[.string (ba r.name), r.vs, r.vr, r.vy]
set_option maxHeartbeats 400000 in
theorem lightR_any (w : World) (r : RouteM) (m : Nat) {P : Nat → Prop} (hg : r.Good w P) :
    Calls Tryz.prog 25 #[r.v, .int .i64 m] w fun e w' => e = .returned (.bool (lightR r.d m)) ∧ Below w.heap.size w w' := by
  obtain ⟨A1, c1, e1, _, _⟩ := hg.stops.shape
  obtain ⟨A2, c2, e2, _, _⟩ := hg.rides.shape
  obtain ⟨A3, c3, e3, _, _⟩ := hg.stays.shape
  unfold RouteM.v
  rw [e1, e2, e3]
  have el : lightR r.d m = (decide ((r.stops.length : Int) ≤ (m : Int)) && decide ((r.rides.length : Int) ≤ (m : Int)) && decide ((r.stays.length : Int) ≤ (m : Int))) := by
    unfold lightR RouteM.d
    by_cases a : r.stops.length ≤ m <;> by_cases b : r.rides.length ≤ m <;> by_cases c : r.stays.length ≤ m <;> simp [a, b, c]
  rw [el]
  clear el hg e1 e2 e3
  generalize r.stops.length = n1 at *
  generalize r.rides.length = n2 at *
  generalize r.stays.length = n3 at *
  by_cases a : n1 ≤ m
  · have da : decide ((n1 : Int) ≤ (m : Int)) = true := decide_eq_true (by omega)
    rw [da]
    by_cases b : n2 ≤ m
    · have db : decide ((n2 : Int) ≤ (m : Int)) = true := decide_eq_true (by omega)
      rw [db]
      by_cases c : n3 ≤ m
      · have dc : decide ((n3 : Int) ≤ (m : Int)) = true := decide_eq_true (by omega)
        rw [dc]
        go_enter Tryz.func25, Tryz.ntmps25
        go_wp2_with fail
        go_ret
        exact ⟨rfl, (Below.refl _ _).alloc (Nat.le_refl _) _⟩
      · have dc : decide ((n3 : Int) ≤ (m : Int)) = false := decide_eq_false (by omega)
        rw [dc]
        go_enter Tryz.func25, Tryz.ntmps25
        go_wp2_with fail
        go_ret
        exact ⟨rfl, (Below.refl _ _).alloc (Nat.le_refl _) _⟩
    · have db : decide ((n2 : Int) ≤ (m : Int)) = false := decide_eq_false (by omega)
      rw [db]
      go_enter Tryz.func25, Tryz.ntmps25
      go_wp2_with fail
      go_ret
      exact ⟨rfl, (Below.refl _ _).alloc (Nat.le_refl _) _⟩
  · have da : decide ((n1 : Int) ≤ (m : Int)) = false := decide_eq_false (by omega)
    rw [da]
    go_enter Tryz.func25, Tryz.ntmps25
    go_wp2_with fail
    go_ret
    exact ⟨rfl, (Below.refl _ _).alloc (Nat.le_refl _) _⟩

/-- A sheet's cells, in a block, as they are loaded. -/
theorem SheetAt.forms {x : SheetM} {w : World} {P : Nat → Prop} (hg : x.Good w P) : ∃ (As : Option Addr) (cs : Nat) (Ap : Option Addr) (cp : Nat) (Ad : Option Addr) (cd : Nat) (Ar : Option Addr) (cr : Nat) (At : Option Addr) (ct : Nat) (Ah : Option Addr) (ch : Nat),
    x.vs = .slice As x.stops.length cs ∧ x.vp = .slice Ap x.paths.length cp ∧ x.vd = .slice Ad x.doors.length cd ∧ x.vr = .slice Ar x.routes.length cr ∧ x.vt = .slice At x.trips.length ct ∧ x.vh = .slice Ah x.hazs.length ch := by
  obtain ⟨As, cs, es, _, _⟩ := hg.stops.shape
  obtain ⟨Ap, cp, ep, _, _⟩ := hg.paths.shape
  obtain ⟨Ad, cd, ed, _, _⟩ := hg.doors.shape
  obtain ⟨Ar, cr, er, _, _⟩ := hg.routes.shape
  obtain ⟨At, ct, et, _, _⟩ := hg.trips.shape
  obtain ⟨Ah, ch, eh, _, _⟩ := hg.hazs.shape
  exact ⟨As, cs, Ap, cp, Ad, cd, Ar, cr, At, ct, Ah, ch, es, ep, ed, er, et, eh⟩

set_option maxHeartbeats 4000000 in
set_option maxRecDepth 100000 in
theorem lightS_bad (w : World) (x : SheetM) {P : Nat → Prop} (hg : x.Good w P) (hb : fewD x.d 60 = false) :
    Calls Tryz.prog 10 #[x.v, .int .i64 60] w fun e w' => e = .returned (.bool false) ∧ Below w.heap.size w w' := by
  obtain ⟨w1, hw1⟩ : ∃ w1, w.alloc (.cells x.c.toArray 29) = w1 := ⟨_, rfl⟩
  have hS1 : SheetAt w.heap.size x w1 := by rw [← hw1]; exact SheetAt.of (heap_alloc_new _ _)
  have hb1 : Below w.heap.size w w1 := by rw [← hw1]; exact (Below.refl _ _).alloc (Nat.le_refl _) _
  have hlt : w.heap.size < w1.heap.size := by rw [← hw1]; simp
  have HB1 := Lib.hid hb1
  have HG1 := Lib.hid (hg.below_ hb1)
  have HS1 := Lib.hid hS1
  have HLT := Lib.hid hlt
  obtain ⟨As, cs, Ap, cp, Ad, cd, Ar, cr, At, ct, Ah, ch, es, ep, ed, er, et, eh⟩ := SheetAt.forms hg
  have cells : ∀ wx, SheetAt w.heap.size x wx → wx.cell? ⟨w.heap.size, 1, none⟩ = some (.slice As x.stops.length cs) ∧ wx.cell? ⟨w.heap.size, 2, none⟩ = some (.slice Ap x.paths.length cp) ∧ wx.cell? ⟨w.heap.size, 3, none⟩ = some (.slice Ad x.doors.length cd) ∧ wx.cell? ⟨w.heap.size, 4, none⟩ = some (.slice Ar x.routes.length cr) ∧ wx.cell? ⟨w.heap.size, 5, none⟩ = some (.slice At x.trips.length ct) ∧ wx.cell? ⟨w.heap.size, 6, none⟩ = some (.slice Ah x.hazs.length ch) := by
    rintro wx ⟨s0, s1, s2, s3, s4, s5, s6⟩
    rw [es] at s1
    rw [ep] at s2
    rw [ed] at s3
    rw [er] at s4
    rw [et] at s5
    rw [eh] at s6
    exact ⟨s1, s2, s3, s4, s5, s6⟩
  have CELLS := Lib.hid cells
  have HER := Lib.hid er
  unfold SheetM.v
  unfold SheetM.c at hw1
  rw [es, ep, ed, er, et, eh] at hw1
  rw [es, ep, ed, er, et, eh]
  obtain ⟨c1, c2, c3, c4, c5, c6⟩ := cells w1 hS1
  clear es ep ed er et eh hS1 hb1 hlt cells
  have hb2 : ¬ (x.stops.length ≤ 60 ∧ x.paths.length ≤ 60 ∧ x.doors.length ≤ 60 ∧ x.routes.length ≤ 60 ∧ x.trips.length ≤ 60 ∧ x.hazs.length ≤ 60) := by
    intro h
    have : x.d.routes.length = x.routes.length := by simp [SheetM.d]
    unfold fewD at hb
    rw [decide_eq_false_iff_not, this] at hb
    exact hb h
  clear hb hg
  generalize x.stops.length = n1 at *
  generalize x.paths.length = n2 at *
  generalize x.doors.length = n3 at *
  generalize x.routes.length = n4 at *
  generalize x.trips.length = n5 at *
  generalize x.hazs.length = n6 at *
  by_cases a1 : n1 ≤ 60
  rotate_left 1
  · have d1 : decide ((n1 : Int) > 60) = true := decide_eq_true (by omega)
    clear hb2
    go_enter Tryz.func10, Tryz.ntmps10
    go_wp2_with fail
    go_ret
    exact ⟨rfl, HB1.out⟩
  have d1 : decide ((n1 : Int) > 60) = false := decide_eq_false (by omega)
  by_cases a2 : n2 ≤ 60
  rotate_left 1
  · have d2 : decide ((n2 : Int) > 60) = true := decide_eq_true (by omega)
    clear hb2
    go_enter Tryz.func10, Tryz.ntmps10
    go_wp2_with fail
    go_ret
    exact ⟨rfl, HB1.out⟩
  have d2 : decide ((n2 : Int) > 60) = false := decide_eq_false (by omega)
  by_cases a3 : n3 ≤ 60
  rotate_left 1
  · have d3 : decide ((n3 : Int) > 60) = true := decide_eq_true (by omega)
    clear hb2
    go_enter Tryz.func10, Tryz.ntmps10
    go_wp2_with fail
    go_ret
    exact ⟨rfl, HB1.out⟩
  have d3 : decide ((n3 : Int) > 60) = false := decide_eq_false (by omega)
  by_cases a4 : n4 ≤ 60
  rotate_left 1
  · have d4 : decide ((n4 : Int) > 60) = true := decide_eq_true (by omega)
    clear hb2
    go_enter Tryz.func10, Tryz.ntmps10
    go_wp2_with fail
    go_ret
    exact ⟨rfl, HB1.out⟩
  have d4 : decide ((n4 : Int) > 60) = false := decide_eq_false (by omega)
  by_cases a5 : n5 ≤ 60
  rotate_left 1
  · have d5 : decide ((n5 : Int) > 60) = true := decide_eq_true (by omega)
    clear hb2
    go_enter Tryz.func10, Tryz.ntmps10
    go_wp2_with fail
    go_ret
    exact ⟨rfl, HB1.out⟩
  have d5 : decide ((n5 : Int) > 60) = false := decide_eq_false (by omega)
  have a6 : ¬ n6 ≤ 60 := fun h => hb2 ⟨a1, a2, a3, a4, a5, h⟩
  have d6 : decide ((n6 : Int) > 60) = true := decide_eq_true (by omega)
  clear hb2
  go_enter Tryz.func10, Tryz.ntmps10
  go_wp2_with fail
  go_ret
  exact ⟨rfl, HB1.out⟩

set_option maxHeartbeats 4000000 in
set_option maxRecDepth 100000 in
theorem lightS_any (w : World) (x : SheetM) {P : Nat → Prop} (hg : x.Good w P) (hb : fewD x.d 60 = true) :
    Calls Tryz.prog 10 #[x.v, .int .i64 60] w fun e w' => e = .returned (.bool (lightD x.d 60)) ∧ Below w.heap.size w w' := by
  obtain ⟨w1, hw1⟩ : ∃ w1, w.alloc (.cells x.c.toArray 29) = w1 := ⟨_, rfl⟩
  have hS1 : SheetAt w.heap.size x w1 := by rw [← hw1]; exact SheetAt.of (heap_alloc_new _ _)
  have hb1 : Below w.heap.size w w1 := by rw [← hw1]; exact (Below.refl _ _).alloc (Nat.le_refl _) _
  have hlt : w.heap.size < w1.heap.size := by rw [← hw1]; simp
  have HB1 := Lib.hid hb1
  have HG1 := Lib.hid (hg.below_ hb1)
  have HS1 := Lib.hid hS1
  have HLT := Lib.hid hlt
  obtain ⟨As, cs, Ap, cp, Ad, cd, Ar, cr, At, ct, Ah, ch, es, ep, ed, er, et, eh⟩ := SheetAt.forms hg
  have cells : ∀ wx, SheetAt w.heap.size x wx → wx.cell? ⟨w.heap.size, 1, none⟩ = some (.slice As x.stops.length cs) ∧ wx.cell? ⟨w.heap.size, 2, none⟩ = some (.slice Ap x.paths.length cp) ∧ wx.cell? ⟨w.heap.size, 3, none⟩ = some (.slice Ad x.doors.length cd) ∧ wx.cell? ⟨w.heap.size, 4, none⟩ = some (.slice Ar x.routes.length cr) ∧ wx.cell? ⟨w.heap.size, 5, none⟩ = some (.slice At x.trips.length ct) ∧ wx.cell? ⟨w.heap.size, 6, none⟩ = some (.slice Ah x.hazs.length ch) := by
    rintro wx ⟨s0, s1, s2, s3, s4, s5, s6⟩
    rw [es] at s1
    rw [ep] at s2
    rw [ed] at s3
    rw [er] at s4
    rw [et] at s5
    rw [eh] at s6
    exact ⟨s1, s2, s3, s4, s5, s6⟩
  have CELLS := Lib.hid cells
  have HER := Lib.hid er
  unfold SheetM.v
  unfold SheetM.c at hw1
  rw [es, ep, ed, er, et, eh] at hw1
  rw [es, ep, ed, er, et, eh]
  obtain ⟨c1, c2, c3, c4, c5, c6⟩ := cells w1 hS1
  clear es ep ed er et eh hS1 hb1 hlt cells
  have hb2 : x.stops.length ≤ 60 ∧ x.paths.length ≤ 60 ∧ x.doors.length ≤ 60 ∧ x.routes.length ≤ 60 ∧ x.trips.length ≤ 60 ∧ x.hazs.length ≤ 60 := by
    have : x.d.routes.length = x.routes.length := by simp [SheetM.d]
    unfold fewD at hb
    rw [decide_eq_true_eq, this] at hb
    exact hb
  obtain ⟨a1, a2, a3, a4, a5, a6⟩ := hb2
  have HALL := Lib.hid (show lightD x.d 60 = x.routes.all (fun r => lightR r.d 60) by unfold lightD; rw [hb, Bool.true_and]; show (x.routes.map RouteM.d).all _ = _; rw [List.all_map]; rfl)
  have d1 : decide ((x.stops.length : Int) > 60) = false := decide_eq_false (by omega)
  have d2 : decide ((x.paths.length : Int) > 60) = false := decide_eq_false (by omega)
  have d3 : decide ((x.doors.length : Int) > 60) = false := decide_eq_false (by omega)
  have d4 : decide ((x.routes.length : Int) > 60) = false := decide_eq_false (by omega)
  have d5 : decide ((x.trips.length : Int) > 60) = false := decide_eq_false (by omega)
  have d6 : decide ((x.hazs.length : Int) > 60) = false := decide_eq_false (by omega)
  clear hb hg
  rw [HALL.out]
  clear HALL
  go_enter Tryz.func10, Tryz.ntmps10
  go_wp2_with fail
  clear hw1 c1 c2 c3 c4 c5 c6 d1 d2 d3 d4 d5 d6
  go_loopw [5] (fun s wr => ∃ k : Nat, k ≤ x.routes.length ∧ s = .int .i64 k ∧ Hid (∀ j (hj : j < x.routes.length), j < k → lightR x.routes[j].d 60 = true) ∧ Below w1.heap.size w1 wr) (fun s _ => x.routes.length - (intOf s).toNat)
  case atStart => exact ⟨0, Nat.zero_le _, rfl, Lib.hid fun j _ h => absurd h (Nat.not_lt_zero _), Below.refl _ _⟩
  case round =>
    obtain ⟨k, hk, rfl, hall, hb⟩ := hrel
    obtain ⟨_, _, _, c4, _, _⟩ := CELLS.out wr (HS1.out.below hb HLT.out)
    by_cases hlt : k < x.routes.length
    · have hG := HG1.out.below_ hb
      have hst := hG.routes
      rw [HER.out] at hst
      obtain ⟨b1, o1, p1, e1, _, _, hl1, _, hxx⟩ := hst.at_ hlt
      injection e1 with e1 e2 e3
      subst e1
      obtain ⟨y, hye⟩ : ∃ y, x.routes[k] = y := ⟨_, rfl⟩
      rw [hye] at hxx
      have hgy : y.Good wr P := hG.each y (hye ▸ List.getElem_mem hlt)
      have hx0 : wr.cell? ⟨b1, o1 + k * 4, none⟩ = some (.string (ba y.name)) := by simpa using hxx 0 _ rfl
      have hx1 : wr.cell? ⟨b1, o1 + k * 4 + 1, none⟩ = some y.vs := by simpa using hxx 1 _ rfl
      have hx2 : wr.cell? ⟨b1, o1 + k * 4 + 2, none⟩ = some y.vr := by simpa using hxx 2 _ rfl
      have hx3 : wr.cell? ⟨b1, o1 + k * 4 + 3, none⟩ = some y.vy := by simpa using hxx 3 _ rfl
      have HC := lightR_any wr y 60 hgy
      obtain ⟨A1, z1, g1, _, _⟩ := hgy.stops.shape
      obtain ⟨A2, z2, g2, _, _⟩ := hgy.rides.shape
      obtain ⟨A3, z3, g3, _, _⟩ := hgy.stays.shape
      unfold RouteM.v at HC
      rw [g1, g2, g3] at HC
      rw [g1] at hx1
      rw [g2] at hx2
      rw [g3] at hx3
      have HCC := Lib.hid HC
      have HB := Lib.hid hb
      have q1 : (0 : Int) ≤ (k : Int) := by omega
      have q2 : (k : Int) < (x.routes.length : Int) := by omega
      clear HC hxx hst hG hgy g1 g2 g3 hb e2 e3
      rcases hv : lightR y.d 60
      · rw [hv] at HCC
        have E := Lib.hid (show (x.routes.all fun r => lightR r.d 60) = false from List.all_eq_false.2 ⟨y, hye ▸ List.getElem_mem hlt, by rw [hv]; decide⟩)
        clear hye hv
        go_wp2_with fail
        refine HCC.out.mono ?_
        rintro e w5 ⟨rfl, hb5⟩
        have HB5 := Lib.hid (HB1.out.trans ((HB.out.trans (hb5.mono HB.out.size)).mono HB1.out.size))
        clear hb5
        go_wp2_with fail
        go_ret
        exact ⟨ret_bool E.out.symm, HB5.out⟩
      · rw [hv] at HCC
        have HY := Lib.hid hye
        have HV := Lib.hid hv
        clear hye hv
        go_wp2_with fail
        refine HCC.out.mono ?_
        rintro e w5 ⟨rfl, hb5⟩
        have HB5 := Lib.hid (HB.out.trans (hb5.mono HB.out.size))
        clear hb5
        go_wp2_with fail
        go_roundw
        case rel => exact ⟨k + 1, by omega, by go_num, Lib.hid fun j hj hjk => by
          rcases Nat.lt_or_ge j k with h | h
          · exact hall.out j hj h
          · have : j = k := by omega
            subst this
            rw [HY.out]; exact HV.out, HB5.out⟩
        case measure => simp [intOf]; omega
    · have hke : k = x.routes.length := by omega
      subst hke
      have E := Lib.hid (show (x.routes.all fun r => lightR r.d 60) = true from List.all_eq_true.2 fun r hr => by
        obtain ⟨j, hj, e⟩ := List.getElem_of_mem hr
        rw [← e]; exact hall.out j hj hj)
      have HB := Lib.hid hb
      clear hb
      go_wp2_with fail
      go_ret
      exact ⟨ret_bool E.out.symm, HB1.out.trans (HB.out.mono HB1.out.size)⟩
end Go.Proofs.YteonefgbdphmiaaGreatDoor
/- The walk of timetableref05.Things. -/
namespace Go.Proofs.YteonefgbdphmiaaGreatDoor
open Go.RowKit

def thingsD (x : SheetD) : Nat := x.stops.length + x.paths.length + x.doors.length + x.routes.length + x.trips.length + x.hazs.length
end Go.Proofs.YteonefgbdphmiaaGreatDoor
