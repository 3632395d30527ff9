/- The lines of things: plain words, and the walks of show.Path, Door, Trip, Hazard and times. -/
import Derived.Test.YtmihinhbcncbfaaGreatDoorSd
namespace Go.Proofs.YtmihinhbcncbfaaGreatDoor
open Go.RowKit

def kFrom : List UInt8 := [102, 114, 111, 109]
def kEvery : List UInt8 := [101, 118, 101, 114, 121]
def kUntil : List UInt8 := [117, 110, 116, 105, 108]
def kOpen : List UInt8 := [111, 112, 101, 110]
def kClosed : List UInt8 := [99, 108, 111, 115, 101, 100]
def kOf : List UInt8 := [111, 102]
def kOn : List UInt8 := [111, 110]
def kStay : List UInt8 := [115, 116, 97, 121]
def kHorizon : List UInt8 := [104, 111, 114, 105, 122, 111, 110]
def kStop : List UInt8 := [115, 116, 111, 112]
def kPath : List UInt8 := [112, 97, 116, 104]
def kDoor : List UInt8 := [100, 111, 111, 114]
def kRoute : List UInt8 := [114, 111, 117, 116, 101]
def kTrip : List UInt8 := [116, 114, 105, 112]
def kHazard : List UInt8 := [104, 97, 122, 97, 114, 100]
def timesW (t : TimesD) (k : List UInt8) : List Wd := [.s kFrom, .n t.start, .s kEvery, .n t.every, .s k, .n t.len]
def timesL (t : TimesD) (k : List UInt8) : List UInt8 := line (timesW t k)
def pathW (p : PathD) : List Wd := [.s kPath, .s p.name, .s p.a, .s p.b, .n p.len]
def pathL (p : PathD) : List UInt8 := line (pathW p)
def doorW (p : DoorD) : List Wd := [.s kDoor, .s p.name, .s p.a, .s p.b, .n p.len, .s (timesL p.times kOpen)]
def doorL (p : DoorD) : List UInt8 := line (doorW p)
def tripW (p : TripD) : List Wd := [.s kTrip, .s p.name, .s kOf, .s p.route, .s kFrom, .n p.start, .s kEvery, .n p.every, .s kUntil, .n p.stop]
def tripL (p : TripD) : List UInt8 := line (tripW p)
def hazW (p : HazD) : List Wd := [.s kHazard, .s p.name, .s kOn, .s p.on, .s (timesL p.times kClosed)]
def hazL (p : HazD) : List UInt8 := line (hazW p)
def stopL (s : List UInt8) : List UInt8 := line [.s kStop, .s s]

/-- A number that an int64 holds. -/
def I64 (n : Int) : Prop := -9223372036854775808 ≤ n ∧ n ≤ 9223372036854775807
def TimesD.Fit (t : TimesD) : Prop := I64 t.start ∧ I64 t.every ∧ I64 t.len

/-- show.line, called with a row that has just been made. -/
theorem line_new (w : World) (H n : Nat) (cs : Array Value) (t : TypeId) (ws : List Wd) (hcs : cs.toList = ws.flatMap wdc) (hn : ws.length = n) (hm : n ≤ 1048576) (hH : w.heap.size = H)
    (hl : (line ws).length ≤ 140737488355328) (hok : ∀ x ∈ ws, x.ok) (hT : Pow w) :
    Calls Tryz.prog 46 #[.slice (some ⟨H, 0, none⟩) n n] (w.alloc (.cells cs t)) fun e w' => e = .returned (.string (ba (line ws))) ∧ Below w.heap.size w w' := by
  have hb : Below w.heap.size w (w.alloc (.cells cs t)) := (Below.refl _ _).alloc (Nat.le_refl _) _
  refine (line_any _ _ ws (Sl.newl ws wdc_len hcs hn (by unfold maxLen; omega) hH) hl hok (hT.below hb) (by omega)).mono ?_
  rintro e w' ⟨he, hb'⟩
  exact ⟨he, hb.trans (hb'.mono hb.size)⟩
theorem ok_cons {x : Wd} {l : List Wd} (h : x.ok) (k : ∀ y ∈ l, y.ok) : ∀ y ∈ x :: l, y.ok := by
  intro y hy
  rcases List.mem_cons.1 hy with rfl | hy
  · exact h
  · exact k y hy
theorem ok_nil : ∀ y ∈ ([] : List Wd), y.ok := fun _ h => by cases h
set_option maxHeartbeats 400000 in
theorem path_any (w : World) (p : PathD) (hT : Pow w) (h1 : I64 p.len) (hl : (pathL p).length ≤ 140737488355328) :
    Calls Tryz.prog 15 #[.agg (pc p).toArray] w fun e w' => e = .returned (.string (ba (pathL p))) ∧ Below w.heap.size w w' := by
  have HC := fun o : Obj => Lib.hid (line_new (w.alloc o) (w.heap.size + 1) 5 _ 20 (pathW p) rfl rfl (by decide) (by simp) hl (ok_cons trivial (ok_cons trivial (ok_cons trivial (ok_cons trivial (ok_cons h1 ok_nil))))) (hT.below ((Below.refl _ _).alloc (Nat.le_refl _) _)))
  clear hl hT h1
  unfold pc
  go_enter Tryz.func15, Tryz.ntmps15
  go_wp2_with fail
  refine (HC _).out.mono ?_
  rintro e w2 ⟨rfl, hb⟩
  have HB := Lib.hid (((Below.refl w.heap.size w).alloc (Nat.le_refl _) _).trans (hb.mono (by simp)))
  clear hb
  go_wp2_with fail
  go_ret
  exact ⟨rfl, HB.out⟩
set_option maxHeartbeats 400000 in
theorem trip_any (w : World) (p : TripD) (hT : Pow w) (h1 : I64 p.start) (h2 : I64 p.every) (h3 : I64 p.stop) (hl : (tripL p).length ≤ 140737488355328) :
    Calls Tryz.prog 21 #[.agg (trc p).toArray] w fun e w' => e = .returned (.string (ba (tripL p))) ∧ Below w.heap.size w w' := by
  have HC := fun o : Obj => Lib.hid (line_new (w.alloc o) (w.heap.size + 1) 10 _ 20 (tripW p) rfl rfl (by decide) (by simp) hl (by
    unfold tripW
    intro y hy
    simp only [List.mem_cons, List.not_mem_nil, or_false] at hy
    rcases hy with rfl | rfl | rfl | rfl | rfl | rfl | rfl | rfl | rfl | rfl <;> first | trivial | exact h1 | exact h2 | exact h3) (hT.below ((Below.refl _ _).alloc (Nat.le_refl _) _)))
  clear hl hT h1 h2 h3
  unfold trc
  go_enter Tryz.func21, Tryz.ntmps21
  go_wp2_with fail
  refine (HC _).out.mono ?_
  rintro e w2 ⟨rfl, hb⟩
  have HB := Lib.hid (((Below.refl w.heap.size w).alloc (Nat.le_refl _) _).trans (hb.mono (by simp)))
  clear hb
  go_wp2_with fail
  go_ret
  exact ⟨rfl, HB.out⟩
set_option maxHeartbeats 400000 in
theorem times_any (w : World) (t : TimesD) (k : List UInt8) (hT : Pow w) (hf : t.Fit) (hl : (timesL t k).length ≤ 140737488355328) :
    Calls Tryz.prog 47 #[.agg (tc t).toArray, .string (ba k)] w fun e w' => e = .returned (.string (ba (timesL t k))) ∧ Below w.heap.size w w' := by
  have HC := fun o : Obj => Lib.hid (line_new (w.alloc o) (w.heap.size + 1) 6 _ 20 (timesW t k) rfl rfl (by decide) (by simp) hl (by
    unfold timesW
    intro y hy
    simp only [List.mem_cons, List.not_mem_nil, or_false] at hy
    rcases hy with rfl | rfl | rfl | rfl | rfl | rfl <;> first | trivial | exact hf.1 | exact hf.2.1 | exact hf.2.2) (hT.below ((Below.refl _ _).alloc (Nat.le_refl _) _)))
  clear hl hT hf
  unfold tc
  go_enter Tryz.func47, Tryz.ntmps47
  go_wp2_with fail
  refine (HC _).out.mono ?_
  rintro e w2 ⟨rfl, hb⟩
  have HB := Lib.hid (((Below.refl w.heap.size w).alloc (Nat.le_refl _) _).trans (hb.mono (by simp)))
  clear hb
  go_wp2_with fail
  go_ret
  exact ⟨rfl, HB.out⟩
set_option maxHeartbeats 400000 in
theorem stop_any (w : World) (x : List UInt8) (hT : Pow w) (hl : (stopL x).length ≤ 140737488355328) :
    Calls Tryz.prog 79 #[.string (ba x)] w fun e w' => e = .returned (.string (ba (stopL x))) ∧ Below w.heap.size w w' := by
  have HC := Lib.hid (line_new w w.heap.size 2 _ 20 [.s kStop, .s x] rfl rfl (by decide) rfl hl (by
    intro y hy
    simp only [List.mem_cons, List.not_mem_nil, or_false] at hy
    rcases hy with rfl | rfl <;> trivial) hT)
  clear hl hT
  go_enter Tryz.func79, Tryz.ntmps79
  go_wp2_with fail
  refine HC.out.mono ?_
  rintro e w2 ⟨rfl, hb⟩
  have HB := Lib.hid hb
  clear hb
  go_wp2_with fail
  go_ret
  exact ⟨rfl, HB.out⟩
end Go.Proofs.YtmihinhbcncbfaaGreatDoor
