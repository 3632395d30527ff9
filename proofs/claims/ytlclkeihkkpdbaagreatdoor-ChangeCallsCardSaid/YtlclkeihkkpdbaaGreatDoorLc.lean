/- The lexer's cursor: plain words, and the block in which it lies. -/
import Derived.Test.YtlclkeihkkpdbaaGreatDoorNb
import Derived.Test.YtlclkeihkkpdbaaGreatDoorSl
namespace Go.Proofs.YtlclkeihkkpdbaaGreatDoor
open Go.RowKit

structure TokD where
  kind : Int
  text : List UInt8
  num : Int
  line : Int
  col : Int
deriving DecidableEq
/-- A token's cells. -/
def tkc (t : TokD) : List Value := [.int .i64 t.kind, .string (ba t.text), .int .i64 t.num, .int .i64 t.line, .int .i64 t.col]
theorem tkc_len : ∀ x, (tkc x).length = 5 := fun _ => rfl
theorem tkc_one : ∀ x, ∀ u ∈ tkc x, u.oneCell' = true := by intro x u hu; simp [tkc] at hu; rcases hu with rfl | rfl | rfl | rfl | rfl <;> rfl
structure Cur where
  s : ByteArray
  line : Nat
  org : Nat
  pos : Nat
  out : List TokD
  some : Bool
  err : Int
  fl : Int
  fc : Int
/-- The states: any, end, remark, word, number, none. -/
inductive St where
  | any | end_ | remark | word | number | none
deriving DecidableEq
def St.v : St → Value
  | .any => .func (.func 51) #[] #[]
  | .end_ => .func (.func 61) #[] #[]
  | .remark => .func (.func 62) #[] #[]
  | .word => .func (.func 63) #[] #[]
  | .number => .func (.func 64) #[] #[]
  | .none => .nilFunc
def Cur.col (c : Cur) (p : Nat) : Int := (p : Int) - c.org + 1
def Cur.fail (c : Cur) (e : Int) (p : Nat) : Cur := { c with err := e, fl := c.line, fc := c.col p }
def Cur.put (c : Cur) (kind : Int) (text : List UInt8) (num : Int) (n : Nat) : Cur := { c with out := c.out ++ [⟨kind, text, num, c.line, c.col c.pos⟩], pos := c.pos + n, some := true }
def Cur.byte (c : Cur) : UInt8 := c.s.data.toList.getD c.pos 0
def stepAny (c : Cur) : St × Cur :=
  if c.pos = c.s.size ∨ c.byte = 10 then (.end_, c) else if c.byte = 35 then (.remark, c) else if c.byte = 32 ∨ c.byte = 9 then (.any, { c with pos := c.pos + 1 })
  else if Nm.cls c.byte = 1 then (.word, c) else if Nm.cls c.byte = 2 then (.number, c) else (.none, c.fail 7 c.pos)
def Cur.down (c : Cur) : Cur := { c with line := c.line + 1, org := c.pos + 1, pos := c.pos + 1, some := false }
def Cur.close (c : Cur) : Cur := if c.some = true then c.put 4 [] 0 0 else c
def stepEnd (c : Cur) : St × Cur := if c.pos = c.s.size then (.none, c.close) else (.any, c.close.down)
/-- Where the line's end is. -/
def Cur.eol (c : Cur) : Nat := c.pos + Nm.pre (fun b => b != 10) (c.s.data.toList.drop c.pos)
def stepRemark (c : Cur) : St × Cur := (.any, { c with pos := c.eol })
def Cur.rest (c : Cur) : List UInt8 := c.s.data.toList.drop c.pos
def stepWord (c : Cur) : St × Cur :=
  let n := Nm.pre Nm.more c.rest
  if 24 < n then (.none, c.fail 3 c.pos) else (.any, c.put (if Nm.res (c.rest.take n) = true then 2 else 1) (c.rest.take n) 0 n)
/-- A cursor's cells. -/
def Cur.cells (c : Cur) (v : Value) : Array Value := #[.string c.s, .int .i64 c.line, .int .i64 c.org, .int .i64 c.pos, v, .bool c.some, .int .i64 c.err, .int .i64 c.fl, .int .i64 c.fc]
/-- Block b holds the cursor; its row lies at B or behind. -/
def CurAt (B b : Nat) (c : Cur) (w : World) : Prop := B ≤ b ∧ ∃ v, w.heap[b]? = Option.some (.cells (c.cells v) 98 (0, 0)) ∧ Ow tkc 5 w B 51 v c.out
/-- What may be: places are in the text, and the text is not too long. -/
structure Cur.Ok (c : Cur) : Prop where
  size : c.s.size ≤ 65536
  pos : c.pos ≤ c.s.size
  org : c.org ≤ c.pos
  line : c.line ≤ c.pos + 1
end Go.Proofs.YtlclkeihkkpdbaaGreatDoor
