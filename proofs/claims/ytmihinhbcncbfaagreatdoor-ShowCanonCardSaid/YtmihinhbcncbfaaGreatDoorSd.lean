/- A sheet's things, as plain data and as cells in memory. -/
import Derived.Test.YtmihinhbcncbfaaGreatDoorSh
namespace Go.Proofs.YtmihinhbcncbfaaGreatDoor
open Go.RowKit

structure PathD where
  name : List UInt8
  a : List UInt8
  b : List UInt8
  len : Int
deriving DecidableEq
structure TimesD where
  start : Int
  every : Int
  len : Int
deriving DecidableEq
structure DoorD where
  name : List UInt8
  a : List UInt8
  b : List UInt8
  len : Int
  times : TimesD
deriving DecidableEq
structure TripD where
  name : List UInt8
  route : List UInt8
  start : Int
  every : Int
  stop : Int
deriving DecidableEq
structure HazD where
  name : List UInt8
  on : List UInt8
  times : TimesD
deriving DecidableEq
/-- A route, and where its rows lie. -/
structure RouteM where
  name : List UInt8
  vs : Value
  vr : Value
  vy : Value
  stops : Nms
  rides : List Int
  stays : List Int
/-- A route without places. -/
structure RouteD where
  name : List UInt8
  stops : Nms
  rides : List Int
  stays : List Int
deriving DecidableEq
def RouteM.d (r : RouteM) : RouteD := ⟨r.name, r.stops, r.rides, r.stays⟩
/-- A sheet, and where its rows lie. -/
structure SheetM where
  hor : Int
  vs : Value
  vp : Value
  vd : Value
  vr : Value
  vt : Value
  vh : Value
  stops : Nms
  paths : List PathD
  doors : List DoorD
  routes : List RouteM
  trips : List TripD
  hazs : List HazD
structure SheetD where
  hor : Int
  stops : Nms
  paths : List PathD
  doors : List DoorD
  routes : List RouteD
  trips : List TripD
  hazs : List HazD
deriving DecidableEq
def SheetM.d (x : SheetM) : SheetD := ⟨x.hor, x.stops, x.paths, x.doors, x.routes.map RouteM.d, x.trips, x.hazs⟩

def ic (n : Int) : List Value := [.int .i64 n]
theorem ic_len : ∀ x, (ic x).length = 1 := fun _ => rfl
theorem ic_one : ∀ x, ∀ u ∈ ic x, u.oneCell' = true := by intro x u hu; simp [ic] at hu; subst hu; rfl
def tc (t : TimesD) : List Value := [.int .i64 t.start, .int .i64 t.every, .int .i64 t.len]
def pc (p : PathD) : List Value := [.string (ba p.name), .string (ba p.a), .string (ba p.b), .int .i64 p.len]
theorem pc_len : ∀ x, (pc x).length = 4 := fun _ => rfl
theorem pc_one : ∀ x, ∀ u ∈ pc x, u.oneCell' = true := by intro x u hu; simp [pc] at hu; rcases hu with rfl | rfl | rfl | rfl <;> rfl
def dc (p : DoorD) : List Value := [.string (ba p.name), .string (ba p.a), .string (ba p.b), .int .i64 p.len, .int .i64 p.times.start, .int .i64 p.times.every, .int .i64 p.times.len]
theorem dc_len : ∀ x, (dc x).length = 7 := fun _ => rfl
theorem dc_one : ∀ x, ∀ u ∈ dc x, u.oneCell' = true := by intro x u hu; simp [dc] at hu; rcases hu with rfl | rfl | rfl | rfl | rfl | rfl | rfl <;> rfl
def trc (p : TripD) : List Value := [.string (ba p.name), .string (ba p.route), .int .i64 p.start, .int .i64 p.every, .int .i64 p.stop]
theorem trc_len : ∀ x, (trc x).length = 5 := fun _ => rfl
theorem trc_one : ∀ x, ∀ u ∈ trc x, u.oneCell' = true := by intro x u hu; simp [trc] at hu; rcases hu with rfl | rfl | rfl | rfl | rfl <;> rfl
def hc (p : HazD) : List Value := [.string (ba p.name), .string (ba p.on), .int .i64 p.times.start, .int .i64 p.times.every, .int .i64 p.times.len]
theorem hc_len : ∀ x, (hc x).length = 5 := fun _ => rfl
theorem hc_one : ∀ x, ∀ u ∈ hc x, u.oneCell' = true := by intro x u hu; simp [hc] at hu; rcases hu with rfl | rfl | rfl | rfl | rfl <;> rfl
def rc (r : RouteM) : List Value := [.string (ba r.name), r.vs, r.vr, r.vy]
theorem rc_len : ∀ x, (rc x).length = 4 := fun _ => rfl
/-- The route's rows read as they should, in blocks that have P. -/
structure RouteM.Good (r : RouteM) (w : World) (P : Nat → Prop) : Prop where
  stops : Sl nc 1 w r.vs r.stops P
  rides : Sl ic 1 w r.vr r.rides P
  stays : Sl ic 1 w r.vy r.stays P
theorem RouteM.Good.keep {r : RouteM} {w w' : World} {P : Nat → Prop} (h : r.Good w P) (hs : w.heap.size ≤ w'.heap.size) (hk : ∀ b, b < w.heap.size → P b → w'.heap[b]? = w.heap[b]?) : r.Good w' P :=
  ⟨h.stops.keep hs hk, h.rides.keep hs hk, h.stays.keep hs hk⟩
theorem RouteM.Good.mono {r : RouteM} {w : World} {P Q : Nat → Prop} (h : r.Good w P) (hp : ∀ b, P b → Q b) : r.Good w Q := ⟨h.stops.mono hp, h.rides.mono hp, h.stays.mono hp⟩
theorem RouteM.Good.below_ {r : RouteM} {w w' : World} {P : Nat → Prop} (h : r.Good w P) (hb : Below w.heap.size w w') : r.Good w' P :=
  h.keep hb.size fun b h1 _ => hb.block b h1
/-- The sheet's rows read as they should. -/
structure SheetM.Good (x : SheetM) (w : World) (P : Nat → Prop) : Prop where
  stops : Sl nc 1 w x.vs x.stops P
  paths : Sl pc 4 w x.vp x.paths P
  doors : Sl dc 7 w x.vd x.doors P
  routes : Sl rc 4 w x.vr x.routes P
  each : ∀ r ∈ x.routes, r.Good w P
  trips : Sl trc 5 w x.vt x.trips P
  hazs : Sl hc 5 w x.vh x.hazs P
theorem SheetM.Good.keep {x : SheetM} {w w' : World} {P : Nat → Prop} (h : x.Good w P) (hs : w.heap.size ≤ w'.heap.size) (hk : ∀ b, b < w.heap.size → P b → w'.heap[b]? = w.heap[b]?) : x.Good w' P :=
  ⟨h.stops.keep hs hk, h.paths.keep hs hk, h.doors.keep hs hk, h.routes.keep hs hk, fun r hr => (h.each r hr).keep hs hk, h.trips.keep hs hk, h.hazs.keep hs hk⟩
theorem SheetM.Good.mono {x : SheetM} {w : World} {P Q : Nat → Prop} (h : x.Good w P) (hp : ∀ b, P b → Q b) : x.Good w Q :=
  ⟨h.stops.mono hp, h.paths.mono hp, h.doors.mono hp, h.routes.mono hp, fun r hr => (h.each r hr).mono hp, h.trips.mono hp, h.hazs.mono hp⟩
theorem SheetM.Good.below_ {x : SheetM} {w w' : World} {P : Nat → Prop} (h : x.Good w P) (hb : Below w.heap.size w w') : x.Good w' P :=
  h.keep hb.size fun b h1 _ => hb.block b h1
/-- A sheet as a value. -/
def SheetM.v (x : SheetM) : Value := .agg #[.int .i64 x.hor, x.vs, x.vp, x.vd, x.vr, x.vt, x.vh]
end Go.Proofs.YtmihinhbcncbfaaGreatDoor
