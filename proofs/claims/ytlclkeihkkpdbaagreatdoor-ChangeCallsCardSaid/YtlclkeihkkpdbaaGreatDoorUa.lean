/- Updates: plain words (nothing of the program but the form of values). -/
import Derived.Test.YtlclkeihkkpdbaaGreatDoorLc
namespace Go.Proofs.YtlclkeihkkpdbaaGreatDoor
open Go.RowKit
structure UpD where
  kind : Int
  name : List UInt8
  no : Int
  pos : Int
  by_ : Int
  from_ : Int
  every : Int
  len : Int
deriving DecidableEq
/-- An update's cells. -/
def upc (u : UpD) : List Value := [.int .i64 u.kind, .string (ba u.name), .int .i64 u.no, .int .i64 u.pos, .int .i64 u.by_, .int .i64 u.from_, .int .i64 u.every, .int .i64 u.len]
theorem upc_len : ∀ x, (upc x).length = 8 := fun _ => rfl
theorem upc_one : ∀ x, ∀ u ∈ upc x, u.oneCell' = true := by intro x u hu; simp [upc] at hu; rcases hu with rfl | rfl | rfl | rfl | rfl | rfl | rfl | rfl <;> rfl
/-- Whether a number is from low to the greatest tick. -/
def inD (n low : Int) : Bool := decide (low ≤ n ∧ n ≤ 1099511627776)
/-- An update without what its kind may have; whether what it may have may be. -/
def bareD (u : UpD) : UpD × Bool :=
  if u.kind = 1 then ({ u with pos := 0, by_ := 0, no := 0 }, (inD u.pos 0 && inD u.by_ 1) && inD u.no 0)
  else if u.kind = 2 ∨ u.kind = 3 then ({ u with no := 0 }, inD u.no 0)
  else if u.kind = 4 ∨ u.kind = 5 then ({ u with from_ := 0, every := 0, len := 0 }, inD u.from_ 0 && inD u.every 0 && inD u.len 0)
  else (u, false)
def checkU (u : UpD) : Int := if (bareD u).2 = true ∧ Nm.name u.name = true ∧ (bareD u).1 = ⟨u.kind, u.name, 0, 0, 0, 0, 0, 0⟩ then 0 else 2
/-- The words of a kind's line. -/
def wName : List UInt8 := [78, 65, 77, 69]
def wNo : List UInt8 := [78, 79]
def wPos : List UInt8 := [80, 79, 83]
def wTicks : List UInt8 := [84, 73, 67, 75, 83]
def wFrom : List UInt8 := [70, 82, 79, 77]
def wEvery : List UInt8 := [69, 86, 69, 82, 89]
def wLen : List UInt8 := [76, 69, 78]
def kDelay : List UInt8 := [100, 101, 108, 97, 121]
def kCancel : List UInt8 := [99, 97, 110, 99, 101, 108]
def kRestore : List UInt8 := [114, 101, 115, 116, 111, 114, 101]
def kDoor : List UInt8 := [100, 111, 111, 114]
def kHazard : List UInt8 := [104, 97, 122, 97, 114, 100]
def kFrom : List UInt8 := [102, 114, 111, 109]
def kBy : List UInt8 := [98, 121]
def kEvery : List UInt8 := [101, 118, 101, 114, 121]
def kOpen : List UInt8 := [111, 112, 101, 110]
def kClosed : List UInt8 := [99, 108, 111, 115, 101, 100]
def wordsD (k : Int) : List (List UInt8) :=
  if k = 1 then [kDelay, wName, wNo, kFrom, wPos, kBy, wTicks] else if k = 2 then [kCancel, wName, wNo] else if k = 3 then [kRestore, wName, wNo]
  else if k = 4 then [kDoor, wName, kFrom, wFrom, kEvery, wEvery, kOpen, wLen] else [kHazard, wName, kFrom, wFrom, kEvery, wEvery, kClosed, wLen]
/-- A part of a line: a word; a name; a number from low on, that goes into cell off of the form. -/
inductive Fld where
  | word (w : List UInt8)
  | name
  | num (off : Nat) (low : Int)
deriving DecidableEq
def fldOf (w : List UInt8) : Fld :=
  if w = wName then .name else if w = wNo then .num 8 0 else if w = wPos then .num 9 0 else if w = wTicks then .num 4 1 else if w = wFrom then .num 5 0 else if w = wEvery then .num 6 0 else if w = wLen then .num 7 0 else .word w
def formD (k : Int) : List Fld := (wordsD k).map fldOf
/-- A part's cells, the form in block b. -/
def fdc (b : Nat) : Fld → List Value
  | .word w => [.string (ba w), .pointer none, .pointer none, .int .i64 0]
  | .name => [.string ⟨#[]⟩, .pointer (some ⟨b, 1, none⟩), .pointer none, .int .i64 0]
  | .num off low => [.string ⟨#[]⟩, .pointer none, .pointer (some ⟨b, off, none⟩), .int .i64 low]
theorem fdc_len (b : Nat) : ∀ x, (fdc b x).length = 4 := by intro x; cases x <;> rfl
theorem fdc_one (b : Nat) : ∀ x, ∀ u ∈ fdc b x, u.oneCell' = true := by intro x u hu; cases x <;> simp [fdc] at hu <;> rcases hu with rfl | rfl | rfl | rfl <;> rfl
/-- A form: the update, and the two numbers beside it. -/
structure FormU where
  u : UpD
  no : Int
  pos : Int
def setF (x : Fld) (t : TokD) (f : FormU) : FormU :=
  match x with
  | .word _ => f
  | .name => { f with u := { f.u with name := t.text } }
  | .num off _ =>
    if off = 8 then { f with no := t.num } else if off = 9 then { f with pos := t.num } else if off = 4 then { f with u := { f.u with by_ := t.num } }
    else if off = 5 then { f with u := { f.u with from_ := t.num } } else if off = 6 then { f with u := { f.u with every := t.num } } else { f with u := { f.u with len := t.num } }
/-- Whether a token may stand in a part. -/
def takeD : Fld → TokD → Bool
  | .word w, t => (t.kind == 1 || t.kind == 2) && t.text == w
  | .name, t => t.kind == 1
  | .num _ low, t => t.kind == 3 && decide (low ≤ t.num)
/-- A line's parts against its tokens: the form, or the token at which it is none. -/
def runU : List Fld → List TokD → FormU → FormU × Option TokD
  | [], t :: _, f => if t.kind = 4 then (f, none) else (f, some t)
  | x :: xs, t :: l, f => if takeD x t = true then runU xs l (setF x t f) else (f, some t)
  | _, [], f => (f, none)
def kindU (t : TokD) : Int :=
  if t.kind = 4 then 6 else if t.text = kDelay then 1 else if t.text = kCancel then 2 else if t.text = kRestore then 3 else if t.text = kDoor then 4 else if t.text = kHazard then 5 else 6
def zeroU : UpD := ⟨0, [], 0, 0, 0, 0, 0, 0⟩
def blankU (k : Int) : FormU := ⟨⟨k, [], 0, 0, 0, 0, 0, 0⟩, 0, 0⟩
end Go.Proofs.YtlclkeihkkpdbaaGreatDoor
