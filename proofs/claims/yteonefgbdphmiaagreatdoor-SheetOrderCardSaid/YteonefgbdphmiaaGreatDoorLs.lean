/- timetablekit.Own and Same at tokens; structs compared. -/
import Derived.Test.YteonefgbdphmiaaGreatDoorBd
import Derived.Test.YteonefgbdphmiaaGreatDoorLo
import Derived.Lib.SliceRun
import Derived.Deep.QuietTactic
import Derived.BigQuiet
namespace Go.Proofs.YteonefgbdphmiaaGreatDoor
open Go.RowKit
theorem fault_eql (a1 a2 a3 b1 b2 b3 : Int) (W : World) : (Go.binOp BinOp.eql 39 (.agg #[.int .i64 a1, .int .i64 a2, .int .i64 a3]) (.agg #[.int .i64 b1, .int .i64 b2, .int .i64 b3])).run Tryz.prog W = .ok (.bool (decide (FaultD.mk a1 a2 a3 = FaultD.mk b1 b2 b3))) W := by
  rw [show decide (FaultD.mk a1 a2 a3 = FaultD.mk b1 b2 b3) = ((a1 == b1) && ((a2 == b2) && (a3 == b3))) by
    simp only [FaultD.mk.injEq, Bool.decide_and]; rfl]
  go_simp
  by_cases h1 : a1 = b1 <;> by_cases h2 : a2 = b2 <;> by_cases h3 : a3 = b3 <;> simp [h1, h2, h3]
/-- A token as a value. -/
def TokD.v (t : TokD) : Value := .agg #[.int .i64 t.kind, .string (ba t.text), .int .i64 t.num, .int .i64 t.line, .int .i64 t.col]
theorem tok_neq (a b : TokD) (W : World) : (Go.binOp BinOp.neq 101 (.agg #[.int .i64 a.kind, .string (ba a.text), .int .i64 a.num, .int .i64 a.line, .int .i64 a.col]) (.agg #[.int .i64 b.kind, .string (ba b.text), .int .i64 b.num, .int .i64 b.line, .int .i64 b.col])).run Tryz.prog W = .ok (.bool (!decide (a = b))) W := by
  obtain ⟨a1, a2, a3, a4, a5⟩ := a
  obtain ⟨b1, b2, b3, b4, b5⟩ := b
  rw [show decide (TokD.mk a1 a2 a3 a4 a5 = TokD.mk b1 b2 b3 b4 b5) = ((a1 == b1) && ((a2 == b2) && ((a3 == b3) && ((a4 == b4) && (a5 == b5))))) by
    rw [Bool.eq_iff_iff]; simp]
  go_simp
  rw [ba_toList, ba_toList]
  by_cases h1 : a1 = b1 <;> by_cases h2 : a2 = b2 <;> by_cases h3 : a3 = b3 <;> by_cases h4 : a4 = b4 <;> by_cases h5 : a5 = b5 <;> simp [h1, h2, h3, h4, h5]
theorem ret_bool' {a b : Bool} (h : a = b) : Ending.returned (.bool a) = .returned (.bool b) := by rw [h]
end Go.Proofs.YteonefgbdphmiaaGreatDoor
