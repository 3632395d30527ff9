/- The walks of show.Lines and show.Text. -/
import Derived.Test.YtmihinhbcncbfaaGreatDoorCk
namespace Go.Proofs.YtmihinhbcncbfaaGreatDoor
open Go.RowKit

def horL (h : Int) : List UInt8 := line [.s kHorizon, .n h]
theorem horL_le {h : Int} (k : I64 h) : (horL h).length ≤ 140737488355328 := by
  refine Nat.le_trans (line_le _ 24 ?_) (by show 25 * 2 ≤ _; decide)
  intro y hy
  simp only [List.mem_cons, List.not_mem_nil, or_false] at hy
  rcases hy with rfl | rfl
  · decide
  · exact dec_le k
set_option maxHeartbeats 1000000 in
theorem g_horizon (w : World) (x : SheetM) {P : Nat → Prop} (hg : x.Good w P) (hf : Fine x) (hT : Pow w) :
    Calls Tryz.prog 38 #[x.v] w (Made nc 1 9 [horL x.hor] w) := by
  have hb1 : ∀ o : Obj, Below w.heap.size w (w.alloc o) := fun o => (Below.refl _ _).alloc (Nat.le_refl _) o
  obtain ⟨As, cs, es, _, _⟩ := hg.stops.shape
  obtain ⟨Ap, cp, ep, _, _⟩ := hg.paths.shape
  obtain ⟨Ad, cd, ed, _, _⟩ := hg.doors.shape
  obtain ⟨Ar, cr, er, _, _⟩ := hg.routes.shape
  obtain ⟨At, ct, et, _, _⟩ := hg.trips.shape
  obtain ⟨Ah, ch, eh, _, _⟩ := hg.hazs.shape
  have HC := fun o : Obj => Lib.hid (line_new (w.alloc o) (w.heap.size + 1) 2 _ 20 [.s kHorizon, .n x.hor] rfl rfl (by decide) (by simp) (horL_le hf.hor) (ok_cons trivial (ok_cons hf.hor ok_nil)) (hT.below (hb1 o)))
  have HB1 := Lib.hid hb1
  unfold SheetM.v
  rw [es, ep, ed, er, et, eh]
  clear hg hf hT hb1 es ep ed er et eh
  go_enter Tryz.func38, Tryz.ntmps38
  go_wp2_with fail
  refine (HC _).out.mono ?_
  rintro e w2 ⟨rfl, hb2⟩
  have HB2 := Lib.hid ((HB1.out _).trans (hb2.mono (by simp)))
  clear hb2
  go_wp2_with fail
  go_ret
  exact ⟨_, rfl, Ow.newl [horL x.hor] nc_len rfl rfl (by show 1 ≤ maxLen; decide) rfl HB2.out.size, HB2.out.alloc HB2.out.size _⟩
/-- The lines of each group. -/
def grp (x : SheetM) (k : Nat) : Nms :=
  match k with
  | 0 => [horL x.hor]
  | 1 => x.stops.map stopL
  | 2 => x.paths.map pathL
  | 3 => x.doors.map doorL
  | 4 => x.routes.map (fun r => routeL r.d)
  | 5 => x.trips.map tripL
  | _ => x.hazs.map hazL
/-- A sheet's lines. -/
def linesD (x : SheetD) : Nms := [horL x.hor] ++ x.stops.map stopL ++ x.paths.map pathL ++ x.doors.map doorL ++ x.routes.map routeL ++ x.trips.map tripL ++ x.hazs.map hazL
theorem grp_all (x : SheetM) : (List.range 7).flatMap (grp x) = linesD x.d := by
  show grp x 0 ++ (grp x 1 ++ (grp x 2 ++ (grp x 3 ++ (grp x 4 ++ (grp x 5 ++ (grp x 6 ++ [])))))) = _
  unfold linesD
  have e : x.d.routes.map routeL = x.routes.map (fun r => routeL r.d) := by
    show (x.routes.map RouteM.d).map routeL = _
    rw [List.map_map]; rfl
  rw [e]
  simp [grp, SheetM.d]
theorem grp_len (x : SheetM) (hf : x.Few) (k : Nat) : (grp x k).length ≤ 1024 := by
  unfold grp
  split <;> simp [hf.stops, hf.paths, hf.doors, hf.routes, hf.trips, hf.hazs]
end Go.Proofs.YtmihinhbcncbfaaGreatDoor
