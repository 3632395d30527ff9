/- sheet.Things. Printed by wip/bin/gensm.py. -/
import Derived.Test.YteonefgbdphmiaaGreatDoorKl
namespace Go.Proofs.YteonefgbdphmiaaGreatDoor
open Go.RowKit
set_option maxHeartbeats 1000000 in
theorem sthings_any (w : World) (x : SheetM) {P : Nat → Prop} (hg : x.Good w P) (hf : x.Few) :
    Calls Tryz.prog 13 #[x.v] w fun e w' => e = .returned (.int .i64 (thingsD x.d : Nat)) ∧ Below w.heap.size w w' := by
  have h1 := hf.stops
  have h2 := hf.paths
  have h3 := hf.doors
  have h4 := hf.routes
  have h5 := hf.trips
  have h6 := hf.hazs
  obtain ⟨w1, hw1⟩ : ∃ w1, w.alloc (.cells x.c.toArray 29) = w1 := ⟨_, rfl⟩
  have hS1 : SheetAt w.heap.size x w1 := by rw [← hw1]; exact SheetAt.of (heap_alloc_new _ _)
  have hb1 : Below w.heap.size w w1 := by rw [← hw1]; exact (Below.refl _ _).alloc (Nat.le_refl _) _
  have hlt : w.heap.size < w1.heap.size := by rw [← hw1]; simp
  have HB1 := Lib.hid hb1
  have HG1 := Lib.hid (hg.below_ hb1)
  have HS1 := Lib.hid hS1
  have HLT := Lib.hid hlt
  obtain ⟨As, cs, Ap, cp, Ad, cd, Ar, cr, At, ct, Ah, ch, es, ep, ed, er, et, eh⟩ := SheetAt.forms hg
  have cells : ∀ wx, SheetAt w.heap.size x wx → wx.cell? ⟨w.heap.size, 1, none⟩ = some (.slice As x.stops.length cs) ∧ wx.cell? ⟨w.heap.size, 2, none⟩ = some (.slice Ap x.paths.length cp) ∧ wx.cell? ⟨w.heap.size, 3, none⟩ = some (.slice Ad x.doors.length cd) ∧ wx.cell? ⟨w.heap.size, 4, none⟩ = some (.slice Ar x.routes.length cr) ∧ wx.cell? ⟨w.heap.size, 5, none⟩ = some (.slice At x.trips.length ct) ∧ wx.cell? ⟨w.heap.size, 6, none⟩ = some (.slice Ah x.hazs.length ch) := by
    rintro wx ⟨s0, s1, s2, s3, s4, s5, s6⟩
    rw [es] at s1
    rw [ep] at s2
    rw [ed] at s3
    rw [er] at s4
    rw [et] at s5
    rw [eh] at s6
    exact ⟨s1, s2, s3, s4, s5, s6⟩
  have CELLS := Lib.hid cells
  have HER := Lib.hid er
  unfold SheetM.v
  unfold SheetM.c at hw1
  rw [es, ep, ed, er, et, eh] at hw1
  rw [es, ep, ed, er, et, eh]
  obtain ⟨c1, c2, c3, c4, c5, c6⟩ := cells w1 hS1
  clear es ep ed er et eh hS1 hb1 hlt cells
  have E : thingsD x.d = x.stops.length + x.paths.length + x.doors.length + x.routes.length + x.trips.length + x.hazs.length := by simp [thingsD, SheetM.d]
  rw [E]
  clear E hg hf HG1 HER
  go_enter Tryz.func13, Tryz.ntmps13
  go_wp2_with fail
  go_ret
  exact ⟨ret_i64 (by omega), HB1.out⟩

end Go.Proofs.YteonefgbdphmiaaGreatDoor
