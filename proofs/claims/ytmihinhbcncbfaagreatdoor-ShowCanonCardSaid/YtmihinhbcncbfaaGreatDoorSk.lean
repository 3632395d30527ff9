/- The groups of a sheet's lines. -/
import Derived.Test.YtmihinhbcncbfaaGreatDoorSe
import Derived.Test.YtmihinhbcncbfaaGreatDoorSc
namespace Go.Proofs.YtmihinhbcncbfaaGreatDoor
open Go.RowKit
/-- A sheet's cells. -/
def SheetM.c (x : SheetM) : List Value := [.int .i64 x.hor, x.vs, x.vp, x.vd, x.vr, x.vt, x.vh]
theorem Made.lift {α : Type} {c : α → List Value} {size : Nat} {t : TypeId} {l : List α} {w w1 : World} {e : Ending} {w' : World} (hb : Below w.heap.size w w1) (h : Made c size t l w1 e w') : Made c size t l w e w' := by
  obtain ⟨v, he, ho, hb2⟩ := h
  exact ⟨v, he, ho.lower hb.size, hb.trans (hb2.mono hb.size)⟩
set_option maxHeartbeats 1000000 in
theorem g_stops (w : World) (x : SheetM) {P : Nat → Prop} (hg : x.Good w P) (hf : Fine x) (hT : Pow w) (hn : x.stops.length ≤ 1048576) :
    Calls Tryz.prog 39 #[x.v] w (Made nc 1 9 (x.stops.map stopL) w) := by
  have hb1 : ∀ o : Obj, Below w.heap.size w (w.alloc o) := fun o => (Below.refl _ _).alloc (Nat.le_refl _) o
  obtain ⟨As, cs, es, _, _⟩ := hg.stops.shape
  obtain ⟨Ap, cp, ep, _, _⟩ := hg.paths.shape
  obtain ⟨Ad, cd, ed, _, _⟩ := hg.doors.shape
  obtain ⟨Ar, cr, er, _, _⟩ := hg.routes.shape
  obtain ⟨At, ct, et, _, _⟩ := hg.trips.shape
  obtain ⟨Ah, ch, eh, _, _⟩ := hg.hazs.shape
  have HC := fun o : Obj => Lib.hid (each_str (w.alloc o) x.vs x.stops (hg.stops.below_ (hb1 o)) hn (hT.below (hb1 o)) hf.stops)
  have HB1 := Lib.hid hb1
  unfold SheetM.v
  rw [es, ep, ed, er, et, eh]
  have HC2 := fun o : Obj => (HC o).out
  simp only [es] at HC2
  have HC3 := Lib.hid HC2
  clear HC HC2 hg hf hT hb1 es ep ed er et eh
  go_enter Tryz.func39, Tryz.ntmps39
  go_wp2_with fail
  refine (HC3.out _).mono ?_
  intro e w2 hm
  have hm2 := Made.lift (HB1.out _) hm
  obtain ⟨v, rfl, ho, hb⟩ := hm2
  have HO := Lib.hid ho
  have HB := Lib.hid hb
  clear ho hb hm
  go_wp2_with fail
  go_ret
  exact ⟨v, rfl, HO.out, HB.out⟩
set_option maxHeartbeats 1000000 in
theorem g_paths (w : World) (x : SheetM) {P : Nat → Prop} (hg : x.Good w P) (hf : Fine x) (hT : Pow w) (hn : x.paths.length ≤ 1048576) :
    Calls Tryz.prog 40 #[x.v] w (Made nc 1 9 (x.paths.map pathL) w) := by
  have hb1 : ∀ o : Obj, Below w.heap.size w (w.alloc o) := fun o => (Below.refl _ _).alloc (Nat.le_refl _) o
  obtain ⟨As, cs, es, _, _⟩ := hg.stops.shape
  obtain ⟨Ap, cp, ep, _, _⟩ := hg.paths.shape
  obtain ⟨Ad, cd, ed, _, _⟩ := hg.doors.shape
  obtain ⟨Ar, cr, er, _, _⟩ := hg.routes.shape
  obtain ⟨At, ct, et, _, _⟩ := hg.trips.shape
  obtain ⟨Ah, ch, eh, _, _⟩ := hg.hazs.shape
  have HC := fun o : Obj => Lib.hid (each_path (w.alloc o) x.vp x.paths (hg.paths.below_ (hb1 o)) hn (hT.below (hb1 o)) hf.paths)
  have HB1 := Lib.hid hb1
  unfold SheetM.v
  rw [es, ep, ed, er, et, eh]
  have HC2 := fun o : Obj => (HC o).out
  simp only [ep] at HC2
  have HC3 := Lib.hid HC2
  clear HC HC2 hg hf hT hb1 es ep ed er et eh
  go_enter Tryz.func40, Tryz.ntmps40
  go_wp2_with fail
  refine (HC3.out _).mono ?_
  intro e w2 hm
  have hm2 := Made.lift (HB1.out _) hm
  obtain ⟨v, rfl, ho, hb⟩ := hm2
  have HO := Lib.hid ho
  have HB := Lib.hid hb
  clear ho hb hm
  go_wp2_with fail
  go_ret
  exact ⟨v, rfl, HO.out, HB.out⟩
set_option maxHeartbeats 1000000 in
theorem g_doors (w : World) (x : SheetM) {P : Nat → Prop} (hg : x.Good w P) (hf : Fine x) (hT : Pow w) (hn : x.doors.length ≤ 1048576) :
    Calls Tryz.prog 41 #[x.v] w (Made nc 1 9 (x.doors.map doorL) w) := by
  have hb1 : ∀ o : Obj, Below w.heap.size w (w.alloc o) := fun o => (Below.refl _ _).alloc (Nat.le_refl _) o
  obtain ⟨As, cs, es, _, _⟩ := hg.stops.shape
  obtain ⟨Ap, cp, ep, _, _⟩ := hg.paths.shape
  obtain ⟨Ad, cd, ed, _, _⟩ := hg.doors.shape
  obtain ⟨Ar, cr, er, _, _⟩ := hg.routes.shape
  obtain ⟨At, ct, et, _, _⟩ := hg.trips.shape
  obtain ⟨Ah, ch, eh, _, _⟩ := hg.hazs.shape
  have HC := fun o : Obj => Lib.hid (each_door (w.alloc o) x.vd x.doors (hg.doors.below_ (hb1 o)) hn (hT.below (hb1 o)) hf.doors)
  have HB1 := Lib.hid hb1
  unfold SheetM.v
  rw [es, ep, ed, er, et, eh]
  have HC2 := fun o : Obj => (HC o).out
  simp only [ed] at HC2
  have HC3 := Lib.hid HC2
  clear HC HC2 hg hf hT hb1 es ep ed er et eh
  go_enter Tryz.func41, Tryz.ntmps41
  go_wp2_with fail
  refine (HC3.out _).mono ?_
  intro e w2 hm
  have hm2 := Made.lift (HB1.out _) hm
  obtain ⟨v, rfl, ho, hb⟩ := hm2
  have HO := Lib.hid ho
  have HB := Lib.hid hb
  clear ho hb hm
  go_wp2_with fail
  go_ret
  exact ⟨v, rfl, HO.out, HB.out⟩
set_option maxHeartbeats 1000000 in
theorem g_routes (w : World) (x : SheetM) {P : Nat → Prop} (hg : x.Good w P) (hf : Fine x) (hT : Pow w) (hn : x.routes.length ≤ 1048576) :
    Calls Tryz.prog 42 #[x.v] w (Made nc 1 9 (x.routes.map (fun x => routeL x.d)) w) := by
  have hb1 : ∀ o : Obj, Below w.heap.size w (w.alloc o) := fun o => (Below.refl _ _).alloc (Nat.le_refl _) o
  obtain ⟨As, cs, es, _, _⟩ := hg.stops.shape
  obtain ⟨Ap, cp, ep, _, _⟩ := hg.paths.shape
  obtain ⟨Ad, cd, ed, _, _⟩ := hg.doors.shape
  obtain ⟨Ar, cr, er, _, _⟩ := hg.routes.shape
  obtain ⟨At, ct, et, _, _⟩ := hg.trips.shape
  obtain ⟨Ah, ch, eh, _, _⟩ := hg.hazs.shape
  have HC := fun o : Obj => Lib.hid (each_route (w.alloc o) x.vr x.routes (hg.routes.below_ (hb1 o)) hn (hT.below (hb1 o)) (fun r hr => ⟨((hg.each r hr).below_ (hb1 o)).mono (fun _ _ => trivial), hf.routes r hr⟩))
  have HB1 := Lib.hid hb1
  unfold SheetM.v
  rw [es, ep, ed, er, et, eh]
  have HC2 := fun o : Obj => (HC o).out
  simp only [er] at HC2
  have HC3 := Lib.hid HC2
  clear HC HC2 hg hf hT hb1 es ep ed er et eh
  go_enter Tryz.func42, Tryz.ntmps42
  go_wp2_with fail
  refine (HC3.out _).mono ?_
  intro e w2 hm
  have hm2 := Made.lift (HB1.out _) hm
  obtain ⟨v, rfl, ho, hb⟩ := hm2
  have HO := Lib.hid ho
  have HB := Lib.hid hb
  clear ho hb hm
  go_wp2_with fail
  go_ret
  exact ⟨v, rfl, HO.out, HB.out⟩
set_option maxHeartbeats 1000000 in
theorem g_trips (w : World) (x : SheetM) {P : Nat → Prop} (hg : x.Good w P) (hf : Fine x) (hT : Pow w) (hn : x.trips.length ≤ 1048576) :
    Calls Tryz.prog 43 #[x.v] w (Made nc 1 9 (x.trips.map tripL) w) := by
  have hb1 : ∀ o : Obj, Below w.heap.size w (w.alloc o) := fun o => (Below.refl _ _).alloc (Nat.le_refl _) o
  obtain ⟨As, cs, es, _, _⟩ := hg.stops.shape
  obtain ⟨Ap, cp, ep, _, _⟩ := hg.paths.shape
  obtain ⟨Ad, cd, ed, _, _⟩ := hg.doors.shape
  obtain ⟨Ar, cr, er, _, _⟩ := hg.routes.shape
  obtain ⟨At, ct, et, _, _⟩ := hg.trips.shape
  obtain ⟨Ah, ch, eh, _, _⟩ := hg.hazs.shape
  have HC := fun o : Obj => Lib.hid (each_trip (w.alloc o) x.vt x.trips (hg.trips.below_ (hb1 o)) hn (hT.below (hb1 o)) hf.trips)
  have HB1 := Lib.hid hb1
  unfold SheetM.v
  rw [es, ep, ed, er, et, eh]
  have HC2 := fun o : Obj => (HC o).out
  simp only [et] at HC2
  have HC3 := Lib.hid HC2
  clear HC HC2 hg hf hT hb1 es ep ed er et eh
  go_enter Tryz.func43, Tryz.ntmps43
  go_wp2_with fail
  refine (HC3.out _).mono ?_
  intro e w2 hm
  have hm2 := Made.lift (HB1.out _) hm
  obtain ⟨v, rfl, ho, hb⟩ := hm2
  have HO := Lib.hid ho
  have HB := Lib.hid hb
  clear ho hb hm
  go_wp2_with fail
  go_ret
  exact ⟨v, rfl, HO.out, HB.out⟩
set_option maxHeartbeats 1000000 in
theorem g_hazards (w : World) (x : SheetM) {P : Nat → Prop} (hg : x.Good w P) (hf : Fine x) (hT : Pow w) (hn : x.hazs.length ≤ 1048576) :
    Calls Tryz.prog 44 #[x.v] w (Made nc 1 9 (x.hazs.map hazL) w) := by
  have hb1 : ∀ o : Obj, Below w.heap.size w (w.alloc o) := fun o => (Below.refl _ _).alloc (Nat.le_refl _) o
  obtain ⟨As, cs, es, _, _⟩ := hg.stops.shape
  obtain ⟨Ap, cp, ep, _, _⟩ := hg.paths.shape
  obtain ⟨Ad, cd, ed, _, _⟩ := hg.doors.shape
  obtain ⟨Ar, cr, er, _, _⟩ := hg.routes.shape
  obtain ⟨At, ct, et, _, _⟩ := hg.trips.shape
  obtain ⟨Ah, ch, eh, _, _⟩ := hg.hazs.shape
  have HC := fun o : Obj => Lib.hid (each_haz (w.alloc o) x.vh x.hazs (hg.hazs.below_ (hb1 o)) hn (hT.below (hb1 o)) hf.hazs)
  have HB1 := Lib.hid hb1
  unfold SheetM.v
  rw [es, ep, ed, er, et, eh]
  have HC2 := fun o : Obj => (HC o).out
  simp only [eh] at HC2
  have HC3 := Lib.hid HC2
  clear HC HC2 hg hf hT hb1 es ep ed er et eh
  go_enter Tryz.func44, Tryz.ntmps44
  go_wp2_with fail
  refine (HC3.out _).mono ?_
  intro e w2 hm
  have hm2 := Made.lift (HB1.out _) hm
  obtain ⟨v, rfl, ho, hb⟩ := hm2
  have HO := Lib.hid ho
  have HB := Lib.hid hb
  clear ho hb hm
  go_wp2_with fail
  go_ret
  exact ⟨v, rfl, HO.out, HB.out⟩
end Go.Proofs.YtmihinhbcncbfaaGreatDoor
