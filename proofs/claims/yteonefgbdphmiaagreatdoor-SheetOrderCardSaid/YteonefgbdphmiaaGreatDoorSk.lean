/- Lines of words and numbers: the plain words, and the walk of show.line. -/
import Derived.Test.YteonefgbdphmiaaGreatDoorBd
import Derived.Test.YteonefgbdphmiaaGreatDoorMh
import Derived.Lib.SliceRun
import Derived.Deep.CutBlock
import Derived.Deep.CutRange
import Derived.Deep.DeepCutAuto
import Derived.Lib.ItoaLen
namespace Go.Proofs.YteonefgbdphmiaaGreatDoor
open Go.RowKit

/-- A word of a line: a text or a number. -/
inductive Wd where
  | s (x : List UInt8)
  | n (i : Int)
def Wd.v : Wd → Value
  | .s x => .iface 9 (.string (ba x))
  | .n i => .iface 2 (.int .i64 i)
def Wd.t : Wd → List UInt8
  | .s x => x
  | .n i => dec i
def Wd.ok : Wd → Prop
  | .s _ => True
  | .n i => -9223372036854775808 ≤ i ∧ i ≤ 9223372036854775807
def wdc (x : Wd) : List Value := [x.v]
theorem wdc_len : ∀ x, (wdc x).length = 1 := fun _ => rfl
theorem wdc_one : ∀ x, ∀ u ∈ wdc x, u.oneCell' = true := by intro x u hu; simp [wdc] at hu; subst hu; cases x <;> rfl
/-- The words with one blank between. -/
def line : List Wd → List UInt8
  | [] => []
  | x :: r => x.t ++ r.flatMap fun y => 32 :: y.t
theorem line_snoc {l : List Wd} (h : 0 < l.length) (y : Wd) : line (l ++ [y]) = (line l ++ [32]) ++ y.t := by
  cases l with
  | nil => cases h
  | cons x r => simp [line]
theorem line_snoc_len (l : List Wd) (y : Wd) : (line l).length + y.t.length ≤ (line (l ++ [y])).length ∧ (0 < l.length → (line l).length + 1 + y.t.length = (line (l ++ [y])).length) := by
  cases l with
  | nil => simp [line]
  | cons x r => simp [line]; omega
theorem line_take_len (l : List Wd) (k : Nat) : (line (l.take k)).length ≤ (line l).length := by
  cases l with
  | nil => simp [line]
  | cons x r =>
    cases k with
    | zero => simp [line]
    | succ k =>
      have h : r = r.take k ++ r.drop k := (List.take_append_drop k r).symm
      simp only [line, List.take_succ_cons]
      conv => rhs; rw [h]
      simp only [List.flatMap_append, List.length_append]
      omega

theorem line_step0 {l : List Wd} (h : 0 < l.length) : line (l.take 0) ++ l[0].t = line (l.take 1) := by
  cases l with
  | nil => cases h
  | cons x r => simp [line]
theorem line_step {l : List Wd} {k : Nat} (h : k < l.length) (hk : 0 < k) : (line (l.take k) ++ [32]) ++ l[k].t = line (l.take (k + 1)) := by
  rw [take_succ_eq l k h, line_snoc (by rw [List.length_take]; omega)]
theorem ta_s (W : World) (v : Value) : (Instr.typeAssert (.iface 9 v) 20 9 true).run Tryz.prog W = .ok (.tuple #[v, .bool true]) W := by kernel_rfl
theorem ta_n (W : World) (v : Value) : (Instr.typeAssert (.iface 2 v) 20 9 true).run Tryz.prog W = .ok (.tuple #[.string ⟨#[]⟩, .bool false]) W := by kernel_rfl
theorem ta_i (W : World) (v : Value) : (Instr.typeAssert (.iface 2 v) 20 2 true).run Tryz.prog W = .ok (.tuple #[v, .bool true]) W := by kernel_rfl
end Go.Proofs.YteonefgbdphmiaaGreatDoor
/- A sheet's things, as plain data and as cells in memory. -/
namespace Go.Proofs.YteonefgbdphmiaaGreatDoor
open Go.RowKit

structure PathD where
  name : List UInt8
  a : List UInt8
  b : List UInt8
  len : Int
deriving DecidableEq
structure TimesD where
  start : Int
  every : Int
  len : Int
deriving DecidableEq
structure DoorD where
  name : List UInt8
  a : List UInt8
  b : List UInt8
  len : Int
  times : TimesD
deriving DecidableEq
structure TripD where
  name : List UInt8
  route : List UInt8
  start : Int
  every : Int
  stop : Int
deriving DecidableEq
structure HazD where
  name : List UInt8
  on : List UInt8
  times : TimesD
deriving DecidableEq
/-- A route, and where its rows lie. -/
structure RouteM where
  name : List UInt8
  vs : Value
  vr : Value
  vy : Value
  stops : Nms
  rides : List Int
  stays : List Int
/-- A route without places. -/
structure RouteD where
  name : List UInt8
  stops : Nms
  rides : List Int
  stays : List Int
deriving DecidableEq
def RouteM.d (r : RouteM) : RouteD := ⟨r.name, r.stops, r.rides, r.stays⟩
/-- A sheet, and where its rows lie. -/
structure SheetM where
  hor : Int
  vs : Value
  vp : Value
  vd : Value
  vr : Value
  vt : Value
  vh : Value
  stops : Nms
  paths : List PathD
  doors : List DoorD
  routes : List RouteM
  trips : List TripD
  hazs : List HazD
structure SheetD where
  hor : Int
  stops : Nms
  paths : List PathD
  doors : List DoorD
  routes : List RouteD
  trips : List TripD
  hazs : List HazD
deriving DecidableEq
def SheetM.d (x : SheetM) : SheetD := ⟨x.hor, x.stops, x.paths, x.doors, x.routes.map RouteM.d, x.trips, x.hazs⟩

def ic (n : Int) : List Value := [.int .i64 n]
theorem ic_len : ∀ x, (ic x).length = 1 := fun _ => rfl
theorem ic_one : ∀ x, ∀ u ∈ ic x, u.oneCell' = true := by intro x u hu; simp [ic] at hu; subst hu; rfl
def tc (t : TimesD) : List Value := [.int .i64 t.start, .int .i64 t.every, .int .i64 t.len]
def pc (p : PathD) : List Value := [.string (ba p.name), .string (ba p.a), .string (ba p.b), .int .i64 p.len]
theorem pc_len : ∀ x, (pc x).length = 4 := fun _ => rfl
theorem pc_one : ∀ x, ∀ u ∈ pc x, u.oneCell' = true := by intro x u hu; simp [pc] at hu; rcases hu with rfl | rfl | rfl | rfl <;> rfl
def dc (p : DoorD) : List Value := [.string (ba p.name), .string (ba p.a), .string (ba p.b), .int .i64 p.len, .int .i64 p.times.start, .int .i64 p.times.every, .int .i64 p.times.len]
theorem dc_len : ∀ x, (dc x).length = 7 := fun _ => rfl
theorem dc_one : ∀ x, ∀ u ∈ dc x, u.oneCell' = true := by intro x u hu; simp [dc] at hu; rcases hu with rfl | rfl | rfl | rfl | rfl | rfl | rfl <;> rfl
def trc (p : TripD) : List Value := [.string (ba p.name), .string (ba p.route), .int .i64 p.start, .int .i64 p.every, .int .i64 p.stop]
theorem trc_len : ∀ x, (trc x).length = 5 := fun _ => rfl
theorem trc_one : ∀ x, ∀ u ∈ trc x, u.oneCell' = true := by intro x u hu; simp [trc] at hu; rcases hu with rfl | rfl | rfl | rfl | rfl <;> rfl
def hc (p : HazD) : List Value := [.string (ba p.name), .string (ba p.on), .int .i64 p.times.start, .int .i64 p.times.every, .int .i64 p.times.len]
theorem hc_len : ∀ x, (hc x).length = 5 := fun _ => rfl
theorem hc_one : ∀ x, ∀ u ∈ hc x, u.oneCell' = true := by intro x u hu; simp [hc] at hu; rcases hu with rfl | rfl | rfl | rfl | rfl <;> rfl
def rc (r : RouteM) : List Value := [.string (ba r.name), r.vs, r.vr, r.vy]
theorem rc_len : ∀ x, (rc x).length = 4 := fun _ => rfl
/-- The route's rows read as they should, in blocks that have P. -/
structure RouteM.Good (r : RouteM) (w : World) (P : Nat → Prop) : Prop where
  stops : Sl nc 1 w r.vs r.stops P
  rides : Sl ic 1 w r.vr r.rides P
  stays : Sl ic 1 w r.vy r.stays P
theorem RouteM.Good.keep {r : RouteM} {w w' : World} {P : Nat → Prop} (h : r.Good w P) (hs : w.heap.size ≤ w'.heap.size) (hk : ∀ b, b < w.heap.size → P b → w'.heap[b]? = w.heap[b]?) : r.Good w' P :=
  ⟨h.stops.keep hs hk, h.rides.keep hs hk, h.stays.keep hs hk⟩
theorem RouteM.Good.mono {r : RouteM} {w : World} {P Q : Nat → Prop} (h : r.Good w P) (hp : ∀ b, P b → Q b) : r.Good w Q := ⟨h.stops.mono hp, h.rides.mono hp, h.stays.mono hp⟩
theorem RouteM.Good.below_ {r : RouteM} {w w' : World} {P : Nat → Prop} (h : r.Good w P) (hb : Below w.heap.size w w') : r.Good w' P :=
  h.keep hb.size fun b h1 _ => hb.block b h1
/-- The sheet's rows read as they should. -/
structure SheetM.Good (x : SheetM) (w : World) (P : Nat → Prop) : Prop where
  stops : Sl nc 1 w x.vs x.stops P
  paths : Sl pc 4 w x.vp x.paths P
  doors : Sl dc 7 w x.vd x.doors P
  routes : Sl rc 4 w x.vr x.routes P
  each : ∀ r ∈ x.routes, r.Good w P
  trips : Sl trc 5 w x.vt x.trips P
  hazs : Sl hc 5 w x.vh x.hazs P
theorem SheetM.Good.keep {x : SheetM} {w w' : World} {P : Nat → Prop} (h : x.Good w P) (hs : w.heap.size ≤ w'.heap.size) (hk : ∀ b, b < w.heap.size → P b → w'.heap[b]? = w.heap[b]?) : x.Good w' P :=
  ⟨h.stops.keep hs hk, h.paths.keep hs hk, h.doors.keep hs hk, h.routes.keep hs hk, fun r hr => (h.each r hr).keep hs hk, h.trips.keep hs hk, h.hazs.keep hs hk⟩
theorem SheetM.Good.mono {x : SheetM} {w : World} {P Q : Nat → Prop} (h : x.Good w P) (hp : ∀ b, P b → Q b) : x.Good w Q :=
  ⟨h.stops.mono hp, h.paths.mono hp, h.doors.mono hp, h.routes.mono hp, fun r hr => (h.each r hr).mono hp, h.trips.mono hp, h.hazs.mono hp⟩
theorem SheetM.Good.below_ {x : SheetM} {w w' : World} {P : Nat → Prop} (h : x.Good w P) (hb : Below w.heap.size w w') : x.Good w' P :=
  h.keep hb.size fun b h1 _ => hb.block b h1
/-- A sheet as a value. -/
def SheetM.v (x : SheetM) : Value := .agg #[.int .i64 x.hor, x.vs, x.vp, x.vd, x.vr, x.vt, x.vh]
end Go.Proofs.YteonefgbdphmiaaGreatDoor
/- The lines of things: plain words, and the walks of show.Path, Door, Trip, Hazard and times. -/
namespace Go.Proofs.YteonefgbdphmiaaGreatDoor
open Go.RowKit

def kFrom : List UInt8 := [102, 114, 111, 109]
def kEvery : List UInt8 := [101, 118, 101, 114, 121]
def kUntil : List UInt8 := [117, 110, 116, 105, 108]
def kOpen : List UInt8 := [111, 112, 101, 110]
def kClosed : List UInt8 := [99, 108, 111, 115, 101, 100]
def kOf : List UInt8 := [111, 102]
def kOn : List UInt8 := [111, 110]
def kStay : List UInt8 := [115, 116, 97, 121]
def kHorizon : List UInt8 := [104, 111, 114, 105, 122, 111, 110]
def kStop : List UInt8 := [115, 116, 111, 112]
def kPath : List UInt8 := [112, 97, 116, 104]
def kDoor : List UInt8 := [100, 111, 111, 114]
def kRoute : List UInt8 := [114, 111, 117, 116, 101]
def kTrip : List UInt8 := [116, 114, 105, 112]
def kHazard : List UInt8 := [104, 97, 122, 97, 114, 100]
def timesW (t : TimesD) (k : List UInt8) : List Wd := [.s kFrom, .n t.start, .s kEvery, .n t.every, .s k, .n t.len]
def timesL (t : TimesD) (k : List UInt8) : List UInt8 := line (timesW t k)
def pathW (p : PathD) : List Wd := [.s kPath, .s p.name, .s p.a, .s p.b, .n p.len]
def pathL (p : PathD) : List UInt8 := line (pathW p)
def doorW (p : DoorD) : List Wd := [.s kDoor, .s p.name, .s p.a, .s p.b, .n p.len, .s (timesL p.times kOpen)]
def doorL (p : DoorD) : List UInt8 := line (doorW p)
def tripW (p : TripD) : List Wd := [.s kTrip, .s p.name, .s kOf, .s p.route, .s kFrom, .n p.start, .s kEvery, .n p.every, .s kUntil, .n p.stop]
def tripL (p : TripD) : List UInt8 := line (tripW p)
def hazW (p : HazD) : List Wd := [.s kHazard, .s p.name, .s kOn, .s p.on, .s (timesL p.times kClosed)]
def hazL (p : HazD) : List UInt8 := line (hazW p)
def stopL (s : List UInt8) : List UInt8 := line [.s kStop, .s s]

/-- A number that an int64 holds. -/
def I64 (n : Int) : Prop := -9223372036854775808 ≤ n ∧ n ≤ 9223372036854775807
def TimesD.Fit (t : TimesD) : Prop := I64 t.start ∧ I64 t.every ∧ I64 t.len

theorem ok_cons {x : Wd} {l : List Wd} (h : x.ok) (k : ∀ y ∈ l, y.ok) : ∀ y ∈ x :: l, y.ok := by
  intro y hy
  rcases List.mem_cons.1 hy with rfl | hy
  · exact h
  · exact k y hy
theorem ok_nil : ∀ y ∈ ([] : List Wd), y.ok := fun _ h => by cases h
end Go.Proofs.YteonefgbdphmiaaGreatDoor
/- The walks of show.Door and show.Hazard: their regions draw their order. -/
namespace Go.Proofs.YteonefgbdphmiaaGreatDoor
open Go.RowKit

/-- The block holds the door's cells. -/
def DoorAt (b : Nat) (p : DoorD) (w : World) : Prop := w.cell? ⟨b, 0, none⟩ = some (.string (ba p.name)) ∧ w.cell? ⟨b, 1, none⟩ = some (.string (ba p.a)) ∧ w.cell? ⟨b, 2, none⟩ = some (.string (ba p.b)) ∧ w.cell? ⟨b, 3, none⟩ = some (.int .i64 p.len) ∧ w.cell? ⟨b, 4, none⟩ = some (.int .i64 p.times.start) ∧ w.cell? ⟨b, 5, none⟩ = some (.int .i64 p.times.every) ∧ w.cell? ⟨b, 6, none⟩ = some (.int .i64 p.times.len)
theorem DoorAt.of {w : World} {b : Nat} {p : DoorD} {t : TypeId} {fr : Nat × Nat} (h : w.heap[b]? = some (.cells (dc p).toArray t fr)) : DoorAt b p w :=
  ⟨Lib.cell_of_heap h 0, Lib.cell_of_heap h 1, Lib.cell_of_heap h 2, Lib.cell_of_heap h 3, Lib.cell_of_heap h 4, Lib.cell_of_heap h 5, Lib.cell_of_heap h 6⟩
theorem DoorAt.below {w w' : World} {b : Nat} {p : DoorD} (h : DoorAt b p w) (hb : Below w.heap.size w w') (hlt : b < w.heap.size) : DoorAt b p w' := by
  obtain ⟨s0, s1, s2, s3, s4, s5, s6⟩ := h
  exact ⟨(hb.cell (p := ⟨b, 0, none⟩) hlt).trans s0, (hb.cell (p := ⟨b, 1, none⟩) hlt).trans s1, (hb.cell (p := ⟨b, 2, none⟩) hlt).trans s2, (hb.cell (p := ⟨b, 3, none⟩) hlt).trans s3, (hb.cell (p := ⟨b, 4, none⟩) hlt).trans s4, (hb.cell (p := ⟨b, 5, none⟩) hlt).trans s5, (hb.cell (p := ⟨b, 6, none⟩) hlt).trans s6⟩
/-- The block holds the hazard's cells. -/
def HazAt (b : Nat) (p : HazD) (w : World) : Prop := w.cell? ⟨b, 0, none⟩ = some (.string (ba p.name)) ∧ w.cell? ⟨b, 1, none⟩ = some (.string (ba p.on)) ∧ w.cell? ⟨b, 2, none⟩ = some (.int .i64 p.times.start) ∧ w.cell? ⟨b, 3, none⟩ = some (.int .i64 p.times.every) ∧ w.cell? ⟨b, 4, none⟩ = some (.int .i64 p.times.len)
theorem HazAt.of {w : World} {b : Nat} {p : HazD} {t : TypeId} {fr : Nat × Nat} (h : w.heap[b]? = some (.cells (hc p).toArray t fr)) : HazAt b p w :=
  ⟨Lib.cell_of_heap h 0, Lib.cell_of_heap h 1, Lib.cell_of_heap h 2, Lib.cell_of_heap h 3, Lib.cell_of_heap h 4⟩
theorem HazAt.below {w w' : World} {b : Nat} {p : HazD} (h : HazAt b p w) (hb : Below w.heap.size w w') (hlt : b < w.heap.size) : HazAt b p w' := by
  obtain ⟨s0, s1, s2, s3, s4⟩ := h
  exact ⟨(hb.cell (p := ⟨b, 0, none⟩) hlt).trans s0, (hb.cell (p := ⟨b, 1, none⟩) hlt).trans s1, (hb.cell (p := ⟨b, 2, none⟩) hlt).trans s2, (hb.cell (p := ⟨b, 3, none⟩) hlt).trans s3, (hb.cell (p := ⟨b, 4, none⟩) hlt).trans s4⟩
end Go.Proofs.YteonefgbdphmiaaGreatDoor
/- The line of a route: plain words, and the walk of show.Route. -/
namespace Go.Proofs.YteonefgbdphmiaaGreatDoor
open Go.RowKit

def rideW (r : RouteD) (i : Nat) : List Wd := if 0 < i ∧ i - 1 < r.rides.length then [.n (r.rides.getD (i - 1) 0)] else []
def stayW (r : RouteD) (i : Nat) : List Wd := if 0 < i ∧ i - 1 < r.stays.length ∧ 0 < r.stays.getD (i - 1) 0 then [.s kStay, .n (r.stays.getD (i - 1) 0)] else []
def stepW (r : RouteD) (i : Nat) : List Wd := rideW r i ++ [.s (r.stops.getD i [])] ++ stayW r i
def preW (r : RouteD) (k : Nat) : List Wd := [.s kRoute, .s r.name] ++ (List.range k).flatMap (stepW r)
def routeW (r : RouteD) : List Wd := preW r r.stops.length
def routeL (r : RouteD) : List UInt8 := line (routeW r)
theorem preW_succ (r : RouteD) (k : Nat) : preW r (k + 1) = ((preW r k ++ rideW r k) ++ [.s (r.stops.getD k [])]) ++ stayW r k := by
  unfold preW stepW
  rw [List.range_succ, List.flatMap_append]
  simp
theorem rideW_len (r : RouteD) (i : Nat) : (rideW r i).length ≤ 1 := by unfold rideW; split <;> simp
theorem stayW_len (r : RouteD) (i : Nat) : (stayW r i).length ≤ 2 := by unfold stayW; split <;> simp
theorem preW_len (r : RouteD) (k : Nat) : (preW r k).length ≤ 2 + 4 * k := by
  induction k with
  | zero => simp [preW]
  | succ k ih =>
    rw [preW_succ]
    simp only [List.length_append, List.length_cons, List.length_nil]
    have := rideW_len r k
    have := stayW_len r k
    omega
structure RouteD.Fit (r : RouteD) : Prop where
  rides : ∀ x ∈ r.rides, I64 x
  stays : ∀ x ∈ r.stays, I64 x
theorem getD_mem {α : Type} {l : List α} {i : Nat} {d : α} (h : i < l.length) : l.getD i d ∈ l := by
  rw [List.getD_eq_getElem?_getD, List.getElem?_eq_getElem h]; exact List.getElem_mem h
theorem preW_ok (r : RouteD) (h : r.Fit) (k : Nat) : ∀ y ∈ preW r k, y.ok := by
  induction k with
  | zero =>
    intro y hy
    simp [preW] at hy
    rcases hy with rfl | rfl <;> trivial
  | succ k ih =>
    intro y hy
    rw [preW_succ] at hy
    simp only [List.mem_append, List.mem_cons, List.not_mem_nil, or_false] at hy
    rcases hy with ((hy | hy) | rfl) | hy
    · exact ih y hy
    · unfold rideW at hy
      split at hy
      · rename_i hc
        simp at hy
        subst hy
        exact h.rides _ (getD_mem hc.2)
      · cases hy
    · trivial
    · unfold stayW at hy
      split at hy
      · rename_i hc
        simp at hy
        rcases hy with rfl | rfl
        · trivial
        · exact h.stays _ (getD_mem hc.2.1)
      · cases hy
theorem info_any : (Tryz.prog.info? 20).map (fun i => (i.zero, i.size, i.bytes)) = some (some .nilIface, 1, 16) := by kernel_rfl

/-- The block holds the route's cells. -/
def RouteAt (b : Nat) (r : RouteM) (w : World) : Prop := w.cell? ⟨b, 0, none⟩ = some (.string (ba r.name)) ∧ w.cell? ⟨b, 1, none⟩ = some r.vs ∧ w.cell? ⟨b, 2, none⟩ = some r.vr ∧ w.cell? ⟨b, 3, none⟩ = some r.vy
theorem RouteAt.of {w : World} {b : Nat} {p : RouteM} {t : TypeId} {fr : Nat × Nat} (h : w.heap[b]? = some (.cells (rc p).toArray t fr)) : RouteAt b p w :=
  ⟨Lib.cell_of_heap h 0, Lib.cell_of_heap h 1, Lib.cell_of_heap h 2, Lib.cell_of_heap h 3⟩
theorem RouteAt.below {w w' : World} {b : Nat} {p : RouteM} (h : RouteAt b p w) (hb : Below w.heap.size w w') (hlt : b < w.heap.size) : RouteAt b p w' := by
  obtain ⟨s0, s1, s2, s3⟩ := h
  exact ⟨(hb.cell (p := ⟨b, 0, none⟩) hlt).trans s0, (hb.cell (p := ⟨b, 1, none⟩) hlt).trans s1, (hb.cell (p := ⟨b, 2, none⟩) hlt).trans s2, (hb.cell (p := ⟨b, 3, none⟩) hlt).trans s3⟩
/-- A row of one's own, and a block made: appended to, it is one's own still. -/
theorem app_keep {α : Type} {c : α → List Value} {size base : Nat} {t : TypeId} {v : Value} {l : List α} {w0 w w' : World} {o : Obj} (h : Below base w0 w) (hbase : base ≤ w.heap.size) (ho : Ow c size w base t v l) (hg : (w.alloc o).grownBy w' v.ownBlock) : Below base w0 w' :=
  (h.alloc hbase o).grown hg (by have := Nat.le_succ w.heap.size; simp; omega) fun k hk => (ho.lt hk).1
theorem Ow.newl {α : Type} {c : α → List Value} {size : Nat} {w : World} {H n base : Nat} {t : TypeId} {cs : Array Value} (l : List α) (hc : ∀ a, (c a).length = size) (hcs : cs.toList = l.flatMap c) (hn : l.length = n) (hm : n ≤ maxLen) (hH : w.heap.size = H) (hb : base ≤ H) :
    Ow c size (w.alloc (.cells cs t)) base t (.slice (some ⟨H, 0, none⟩) n n) l := by
  subst hH hn
  have hl : (l.flatMap c).length = l.length * size := flat_length hc l
  refine ⟨by rw [hl], .inr ⟨w.heap.size, l.length, cs, rfl, hb, heap_alloc_new w _, Nat.le_refl _, hm, by rw [← Array.length_toList, hcs, hl], by rw [hcs, List.take_of_length_le (by rw [hl]; exact Nat.le_refl _)]⟩⟩
end Go.Proofs.YteonefgbdphmiaaGreatDoor
/- The lines of all things of a kind: show.each at six types. Printed by wip/bin/genea.py. -/
namespace Go.Proofs.YteonefgbdphmiaaGreatDoor
open Go.RowKit

end Go.Proofs.YteonefgbdphmiaaGreatDoor
/- Which sheets may be: plain words; what follows for the lengths of lines. -/
namespace Go.Proofs.YteonefgbdphmiaaGreatDoor
open Go.RowKit

def namesD (x : SheetD) : Nms :=
  x.stops ++ x.paths.flatMap (fun p => [p.name, p.a, p.b]) ++ x.doors.flatMap (fun p => [p.name, p.a, p.b]) ++ x.routes.flatMap (fun r => [r.name] ++ r.stops) ++ x.trips.flatMap (fun t => [t.name, t.route]) ++ x.hazs.flatMap (fun h => [h.name, h.on])
def timesN (t : TimesD) : List Int := [t.start, t.every, t.len]
def numsD (x : SheetD) : List Int :=
  [x.hor] ++ x.paths.flatMap (fun p => [p.len]) ++ x.doors.flatMap (fun p => [p.len] ++ timesN p.times) ++ x.routes.flatMap (fun r => r.rides ++ r.stays) ++ x.trips.flatMap (fun t => [t.start, t.every, t.stop]) ++ x.hazs.flatMap (fun h => timesN h.times)
def okN (n : Int) : Bool := decide (0 ≤ n ∧ n ≤ 1099511627776)
def okR (r : RouteD) : Bool := decide (2 ≤ r.stops.length ∧ r.stops.length ≤ 32 ∧ r.rides.length + 1 = r.stops.length ∧ r.stays.length + 2 = r.stops.length)
def longD (x : SheetD) : Bool := decide (256 < x.stops.length ∨ 1024 < x.paths.length ∨ 256 < x.doors.length ∨ 256 < x.routes.length ∨ 1024 < x.trips.length ∨ 256 < x.hazs.length)
/-- What sheet.Check tells. -/
def checkD (x : SheetD) : Int :=
  if longD x = true then 3 else if (namesD x).any (fun s => !Nm.name s) = true then 7 else if (numsD x).any (fun n => !okN n) = true then 9 else if x.routes.any (fun r => !okR r) = true then 2 else 0
theorem any_not {α : Type} {l : List α} {p : α → Bool} (h : ¬ (l.any fun a => !p a) = true) : ∀ a ∈ l, p a = true := by
  intro a ha
  rcases hp : p a with _ | _
  · exact absurd (List.any_eq_true.2 ⟨a, ha, by rw [hp]; rfl⟩) h
  · rfl
theorem check_ok {x : SheetD} (h : checkD x = 0) : longD x = false ∧ (∀ s ∈ namesD x, Nm.name s = true) ∧ (∀ n ∈ numsD x, okN n = true) ∧ ∀ r ∈ x.routes, okR r = true := by
  unfold checkD at h
  by_cases h1 : longD x = true
  · rw [if_pos h1] at h; cases h
  rw [if_neg h1] at h
  by_cases h2 : (namesD x).any (fun s => !Nm.name s) = true
  · rw [if_pos h2] at h; cases h
  rw [if_neg h2] at h
  by_cases h3 : (numsD x).any (fun n => !okN n) = true
  · rw [if_pos h3] at h; cases h
  rw [if_neg h3] at h
  by_cases h4 : x.routes.any (fun r => !okR r) = true
  · rw [if_pos h4] at h; cases h
  exact ⟨by simpa using h1, any_not h2, any_not h3, any_not h4⟩
theorem okN_i64 {n : Int} (h : okN n = true) : I64 n := by
  unfold okN at h
  rw [decide_eq_true_eq] at h
  exact ⟨by omega, by omega⟩
theorem line_le (ws : List Wd) (m : Nat) (h : ∀ y ∈ ws, y.t.length ≤ m) : (line ws).length ≤ (m + 1) * ws.length := by
  cases ws with
  | nil => simp [line]
  | cons x r =>
    have hx := h x (List.mem_cons_self ..)
    have hr : (r.flatMap fun y => 32 :: y.t).length ≤ (m + 1) * r.length := by
      clear hx
      induction r with
      | nil => simp
      | cons y r ih =>
        have hy := h y (by simp)
        have := ih (fun z hz => h z (by rcases List.mem_cons.1 hz with rfl | hz <;> simp [*]))
        rw [List.flatMap_cons, List.length_append, List.length_cons, List.length_cons, Nat.mul_add]
        omega
    unfold line
    rw [List.length_append, List.length_cons, Nat.mul_add]
    omega
theorem dec_le {n : Int} (h : I64 n) : (Wd.n n).t.length ≤ 24 := by
  have := Lib.itoa_length_le n h.1 h.2
  show (Lib.itoa n).length ≤ 24
  omega
theorem name_le {s : List UInt8} (h : Nm.name s = true) : (Wd.s s).t.length ≤ 24 := (Nm.name_len h).2
theorem timesL_le {t : TimesD} {k : List UInt8} (h : t.Fit) (hk : k.length ≤ 24) : (timesL t k).length ≤ 150 := by
  refine line_le (timesW t k) 24 ?_
  unfold timesW
  intro y hy
  simp only [List.mem_cons, List.not_mem_nil, or_false] at hy
  rcases hy with rfl | rfl | rfl | rfl | rfl | rfl
  · decide
  · exact dec_le h.1
  · decide
  · exact dec_le h.2.1
  · exact hk
  · exact dec_le h.2.2
/-- What the walks ask of a sheet whose lines are told. -/
structure FineB (B : Nat) (x : SheetM) : Prop where
  hor : I64 x.hor
  stops : ∀ s ∈ x.stops, (stopL s).length ≤ B
  paths : ∀ p ∈ x.paths, I64 p.len ∧ (pathL p).length ≤ B
  doors : ∀ p ∈ x.doors, (I64 p.len ∧ p.times.Fit) ∧ (doorL p).length ≤ B ∧ (timesL p.times kOpen).length ≤ B
  routes : ∀ r ∈ x.routes, r.d.Fit ∧ r.stops.length ≤ 1000 ∧ (routeL r.d).length ≤ B
  trips : ∀ t ∈ x.trips, (I64 t.start ∧ I64 t.every ∧ I64 t.stop) ∧ (tripL t).length ≤ B
  hazs : ∀ h ∈ x.hazs, h.times.Fit ∧ (hazL h).length ≤ B ∧ (timesL h.times kClosed).length ≤ B
abbrev Fine (x : SheetM) : Prop := FineB 140737488355328 x
theorem FineB.mono {B C : Nat} {x : SheetM} (h : FineB B x) (k : B ≤ C) : FineB C x :=
  ⟨h.hor, fun s hs => Nat.le_trans (h.stops s hs) k, fun p hp => ⟨(h.paths p hp).1, Nat.le_trans (h.paths p hp).2 k⟩, fun p hp => ⟨(h.doors p hp).1, Nat.le_trans (h.doors p hp).2.1 k, Nat.le_trans (h.doors p hp).2.2 k⟩, fun r hr => ⟨(h.routes r hr).1, (h.routes r hr).2.1, Nat.le_trans (h.routes r hr).2.2 k⟩, fun t ht => ⟨(h.trips t ht).1, Nat.le_trans (h.trips t ht).2 k⟩, fun t ht => ⟨(h.hazs t ht).1, Nat.le_trans (h.hazs t ht).2.1 k, Nat.le_trans (h.hazs t ht).2.2 k⟩⟩
theorem in_names {x : SheetD} {s : List UInt8} (h : s ∈ x.stops ∨ (∃ p ∈ x.paths, s ∈ [p.name, p.a, p.b]) ∨ (∃ p ∈ x.doors, s ∈ [p.name, p.a, p.b]) ∨ (∃ r ∈ x.routes, s ∈ [r.name] ++ r.stops) ∨ (∃ t ∈ x.trips, s ∈ [t.name, t.route]) ∨ ∃ t ∈ x.hazs, s ∈ [t.name, t.on]) : s ∈ namesD x := by
  unfold namesD
  simp only [List.mem_append, List.mem_flatMap]
  simp only [List.mem_append] at h
  rcases h with h | h | h | h | h | h
  · exact .inl (.inl (.inl (.inl (.inl h))))
  · exact .inl (.inl (.inl (.inl (.inr h))))
  · exact .inl (.inl (.inl (.inr h)))
  · exact .inl (.inl (.inr h))
  · exact .inl (.inr h)
  · exact .inr h
theorem in_nums {x : SheetD} {n : Int} (h : n = x.hor ∨ (∃ p ∈ x.paths, n ∈ [p.len]) ∨ (∃ p ∈ x.doors, n ∈ [p.len] ++ timesN p.times) ∨ (∃ r ∈ x.routes, n ∈ r.rides ++ r.stays) ∨ (∃ t ∈ x.trips, n ∈ [t.start, t.every, t.stop]) ∨ ∃ t ∈ x.hazs, n ∈ timesN t.times) : n ∈ numsD x := by
  unfold numsD
  simp only [List.mem_append, List.mem_flatMap, List.mem_cons, List.not_mem_nil, or_false]
  simp only [List.mem_append, List.mem_cons, List.not_mem_nil, or_false] at h
  rcases h with h | h | h | h | h | h
  · exact .inl (.inl (.inl (.inl (.inl h))))
  · exact .inl (.inl (.inl (.inl (.inr h))))
  · exact .inl (.inl (.inl (.inr h)))
  · exact .inl (.inl (.inr h))
  · exact .inl (.inr h)
  · exact .inr h
theorem fit_of {t : TimesD} (h : ∀ n ∈ timesN t, okN n = true) : t.Fit :=
  ⟨okN_i64 (h _ (by simp [timesN])), okN_i64 (h _ (by simp [timesN])), okN_i64 (h _ (by simp [timesN]))⟩
theorem fineB_of (x : SheetM) (h : checkD x.d = 0) : FineB 4000 x := by
  obtain ⟨_, hn, hi, hr⟩ := check_ok h
  refine ⟨okN_i64 (hi _ (in_nums (.inl rfl))), fun s hs => ?_, fun p hp => ?_, fun p hp => ?_, fun r hr2 => ?_, fun t ht => ?_, fun t ht => ?_⟩
  · have h1 := name_le (hn _ (in_names (.inl hs)))
    refine Nat.le_trans (line_le _ 24 ?_) (by show 25 * 2 ≤ _; decide)
    intro y hy
    simp only [List.mem_cons, List.not_mem_nil, or_false] at hy
    rcases hy with rfl | rfl
    · decide
    · exact h1
  · have h1 := fun s hs => name_le (hn s (in_names (.inr (.inl ⟨p, hp, hs⟩))))
    have h2 := okN_i64 (hi _ (in_nums (.inr (.inl ⟨p, hp, List.mem_cons_self ..⟩))))
    refine ⟨h2, Nat.le_trans (line_le (pathW p) 24 ?_) (by show 25 * 5 ≤ _; decide)⟩
    unfold pathW
    intro y hy
    simp only [List.mem_cons, List.not_mem_nil, or_false] at hy
    rcases hy with rfl | rfl | rfl | rfl | rfl
    · decide
    · exact h1 _ (by simp)
    · exact h1 _ (by simp)
    · exact h1 _ (by simp)
    · exact dec_le h2
  · have h1 := fun s hs => name_le (hn s (in_names (.inr (.inr (.inl ⟨p, hp, hs⟩)))))
    have h3 := fun n hn => hi n (in_nums (.inr (.inr (.inl ⟨p, hp, hn⟩))))
    have h2 := okN_i64 (h3 p.len (by simp))
    have hf : p.times.Fit := fit_of fun n hn => h3 n (by simp [hn])
    have ht := timesL_le (k := kOpen) hf (by decide)
    refine ⟨⟨h2, hf⟩, Nat.le_trans (line_le (doorW p) 150 ?_) (by show 151 * 6 ≤ _; decide), by omega⟩
    unfold doorW
    intro y hy
    simp only [List.mem_cons, List.not_mem_nil, or_false] at hy
    rcases hy with rfl | rfl | rfl | rfl | rfl | rfl
    · decide
    · exact Nat.le_trans (h1 _ (by simp)) (by decide)
    · exact Nat.le_trans (h1 _ (by simp)) (by decide)
    · exact Nat.le_trans (h1 _ (by simp)) (by decide)
    · exact Nat.le_trans (dec_le h2) (by decide)
    · exact ht
  · have hm : r.d ∈ x.d.routes := List.mem_map_of_mem hr2
    have h1 := fun s hs => name_le (hn s (in_names (.inr (.inr (.inr (.inl ⟨r.d, hm, hs⟩))))))
    have h3 := fun n hn => hi n (in_nums (.inr (.inr (.inr (.inl ⟨r.d, hm, hn⟩)))))
    have hk := hr _ hm
    unfold okR at hk
    rw [decide_eq_true_eq] at hk
    have hf : r.d.Fit := ⟨fun n hn => okN_i64 (h3 n (by simp [hn])), fun n hn => okN_i64 (h3 n (by simp [hn]))⟩
    have hs : r.stops.length ≤ 32 := hk.2.1
    refine ⟨hf, by omega, ?_⟩
    have hl : ∀ y ∈ routeW r.d, y.t.length ≤ 24 := by
      have key : ∀ k, k ≤ r.d.stops.length → ∀ y ∈ preW r.d k, y.t.length ≤ 24 := by
        intro k
        induction k with
        | zero =>
          intro _ y hy
          simp [preW] at hy
          rcases hy with rfl | rfl
          · decide
          · exact h1 _ (by simp)
        | succ k ih =>
          intro hk y hy
          rw [preW_succ] at hy
          simp only [List.mem_append, List.mem_cons, List.not_mem_nil, or_false] at hy
          rcases hy with ((hy | hy) | rfl) | hy
          · exact ih (by omega) y hy
          · unfold rideW at hy
            split at hy
            · rename_i hc
              simp at hy
              subst hy
              exact dec_le (hf.rides _ (getD_mem hc.2))
            · cases hy
          · exact h1 _ (by simp only [List.mem_append]; exact .inr (getD_mem (by omega)))
          · unfold stayW at hy
            split at hy
            · rename_i hc
              simp at hy
              rcases hy with rfl | rfl
              · decide
              · exact dec_le (hf.stays _ (getD_mem hc.2.1))
            · cases hy
      exact key _ (Nat.le_refl _)
    have h5 := line_le _ 24 hl
    have h6 := preW_len r.d r.d.stops.length
    have h7 : r.d.stops.length ≤ 32 := hs
    have h8 : (routeW r.d).length ≤ 130 := by show (preW r.d r.d.stops.length).length ≤ 130; omega
    show (line (routeW r.d)).length ≤ _
    have : (24 + 1) * (routeW r.d).length ≤ 25 * 130 := Nat.mul_le_mul_left _ h8
    omega
  · have h1 := fun s hs => name_le (hn s (in_names (.inr (.inr (.inr (.inr (.inl ⟨t, ht, hs⟩)))))))
    have h3 := fun n hn => okN_i64 (hi n (in_nums (.inr (.inr (.inr (.inr (.inl ⟨t, ht, hn⟩)))))))
    refine ⟨⟨h3 _ (by simp), h3 _ (by simp), h3 _ (by simp)⟩, Nat.le_trans (line_le (tripW t) 24 ?_) (by show 25 * 10 ≤ _; decide)⟩
    unfold tripW
    intro y hy
    simp only [List.mem_cons, List.not_mem_nil, or_false] at hy
    rcases hy with rfl | rfl | rfl | rfl | rfl | rfl | rfl | rfl | rfl | rfl <;> first | decide | exact h1 t.name (by simp) | exact h1 t.route (by simp) | exact dec_le (h3 t.start (by simp)) | exact dec_le (h3 t.every (by simp)) | exact dec_le (h3 t.stop (by simp))
  · have h1 := fun s hs => name_le (hn s (in_names (.inr (.inr (.inr (.inr (.inr ⟨t, ht, hs⟩)))))))
    have h3 := fun n hn => hi n (in_nums (.inr (.inr (.inr (.inr (.inr ⟨t, ht, hn⟩))))))
    have hf : t.times.Fit := fit_of h3
    have ht := timesL_le (k := kClosed) hf (by decide)
    refine ⟨hf, Nat.le_trans (line_le (hazW t) 150 ?_) (by show 151 * 5 ≤ _; decide), by omega⟩
    unfold hazW
    intro y hy
    simp only [List.mem_cons, List.not_mem_nil, or_false] at hy
    rcases hy with rfl | rfl | rfl | rfl | rfl
    · decide
    · exact Nat.le_trans (h1 _ (by simp)) (by decide)
    · decide
    · exact Nat.le_trans (h1 _ (by simp)) (by decide)
    · exact ht
theorem fine_of (x : SheetM) (h : checkD x.d = 0) : Fine x := (fineB_of x h).mono (by decide)
end Go.Proofs.YteonefgbdphmiaaGreatDoor
/- The groups of a sheet's lines. -/
namespace Go.Proofs.YteonefgbdphmiaaGreatDoor
open Go.RowKit
/-- A sheet's cells. -/
def SheetM.c (x : SheetM) : List Value := [.int .i64 x.hor, x.vs, x.vp, x.vd, x.vr, x.vt, x.vh]
theorem Made.lift {α : Type} {c : α → List Value} {size : Nat} {t : TypeId} {l : List α} {w w1 : World} {e : Ending} {w' : World} (hb : Below w.heap.size w w1) (h : Made c size t l w1 e w') : Made c size t l w e w' := by
  obtain ⟨v, he, ho, hb2⟩ := h
  exact ⟨v, he, ho.lower hb.size, hb.trans (hb2.mono hb.size)⟩
end Go.Proofs.YteonefgbdphmiaaGreatDoor
