/-
  NARROWER THAN 'FOR EVERY INPUT', by the rows' own cells (each row's printed sentence says how): BitsetWide: laid · BitsetNames: laid · BitsetSpreads: laid · BitsetRules: laid · BitsetScript: laid · BitsetNil: laid.
  DERIVED. THE GIVEN ROWS OF THIS SEAT. 6 by the template 'for every input the law returns true; each argument reads behind the call as it read before'; 0 by the template 'total and deterministic' (their statements: YtaaladekamfpnaaDoorTotals.lean).
  GIVEN WITH THE SEED: the statements are not yours to turn. If you find one false, say at which input.
  Laid BY PROGRAM, IN A SANDBOX (cutbox-rows.mjs): the forced cells as the released guide's own fill.sh prints them over the translation 3313a373c0af3877… (all of the seat's roots in one cut). By AI agents, Wed Nov 11 2026. No macro, syntax, notation, axiom, sorry.
-/
import Derived.Test.YtaaladekamfpnaaDoorChecked
import GoSem.Claim
import GoSem.ClaimJoined
import GoSem.ClaimMapViews
import Derived.JoinedTies
import Derived.KernelRfl
namespace Go.Proofs.YtaaladekamfpnaaDoor
/- THE CELL 'sum', in the pinned program and in every row, IS THE sha256 OF THE DUMP (.gsa) THAT YtaaladekamfpnaaDoorProg.lean LOADS. Nothing in Lean hashes anything: it is a label: what it is worth is what the hold of that sum in a sandbox is worth. -/
noncomputable def Tryd.pinned : Pinned := { name := "ytaaladekamfpnaadoor", sum := "3313a373c0af3877e8cf2bea00974cb6e691736b0dfca456d9b0728adcd0914e", checked := Tryd.checked }
namespace Rows
def none {H : Type} : Left H := { results := [], args := [] }

/- WHAT THE LISTED PACKAGE-LEVEL VARIABLES READ AS WHEN THE CALL BEGINS. Each datum BY PROGRAM (the guide's laid-datum.mjs) off the statement by which the dump's own 'gosem.cut.vars' lays the variable. In a bare row this is a premise. The card (YtaaladekamfpnaaDoorCards.lean) ties it to the program's text. -/
def laid_math_bits_deBruijn64tab {H : Type} : DataW H := .agg [.lit (.int .u8 0), .lit (.int .u8 1), .lit (.int .u8 56), .lit (.int .u8 2), .lit (.int .u8 57), .lit (.int .u8 49), .lit (.int .u8 28), .lit (.int .u8 3), .lit (.int .u8 61), .lit (.int .u8 58), .lit (.int .u8 42), .lit (.int .u8 50), .lit (.int .u8 38), .lit (.int .u8 29), .lit (.int .u8 17), .lit (.int .u8 4), .lit (.int .u8 62), .lit (.int .u8 47), .lit (.int .u8 59), .lit (.int .u8 36), .lit (.int .u8 45), .lit (.int .u8 43), .lit (.int .u8 51), .lit (.int .u8 22), .lit (.int .u8 53), .lit (.int .u8 39), .lit (.int .u8 33), .lit (.int .u8 30), .lit (.int .u8 24), .lit (.int .u8 18), .lit (.int .u8 12), .lit (.int .u8 5), .lit (.int .u8 63), .lit (.int .u8 55), .lit (.int .u8 48), .lit (.int .u8 27), .lit (.int .u8 60), .lit (.int .u8 41), .lit (.int .u8 37), .lit (.int .u8 16), .lit (.int .u8 46), .lit (.int .u8 35), .lit (.int .u8 44), .lit (.int .u8 21), .lit (.int .u8 52), .lit (.int .u8 32), .lit (.int .u8 23), .lit (.int .u8 11), .lit (.int .u8 54), .lit (.int .u8 26), .lit (.int .u8 40), .lit (.int .u8 15), .lit (.int .u8 34), .lit (.int .u8 20), .lit (.int .u8 31), .lit (.int .u8 10), .lit (.int .u8 25), .lit (.int .u8 14), .lit (.int .u8 19), .lit (.int .u8 9), .lit (.int .u8 13), .lit (.int .u8 8), .lit (.int .u8 7), .lit (.int .u8 6)]

/-- 'timetablelaw03.BitsetWide': WHATEVER THE INPUT: true; the input reads as it did. -/
def bitsetWideSpec : ChangeSpec := { name := "bitsetWide", fn := fun _ => fun
  | [d1, d2, d3] => { results := [.lit (.bool true)], args := [d1, d2, d3] }
  | _ => none }
def bitsetWideRow : OpenClaim := { program := "ytaaladekamfpnaadoor", sum := "3313a373c0af3877e8cf2bea00974cb6e691736b0dfca456d9b0728adcd0914e", func := "timetable/timetablelaw03.BitsetWide", spec := "bitsetWide", named := ["math/bits.deBruijn64tab"], apart := false, laid := [("math/bits.deBruijn64tab", laid_math_bits_deBruijn64tab)] }
def BitsetWideSaid : Prop := bitsetWideRow.holds Tryd.pinned (OpenSpec.ofChange bitsetWideSpec)

/-- ITS FALSE NEIGHBOUR: 'it returns false'. Refute it at one input. -/
def bitsetWideWrong : ChangeSpec := { name := "bitsetWide", fn := fun _ => fun
  | [d1, d2, d3] => { results := [.lit (.bool false)], args := [d1, d2, d3] }
  | _ => none }
def BitsetWideWrongFalsely : Prop := bitsetWideRow.holds Tryd.pinned (OpenSpec.ofChange bitsetWideWrong)

/-- 'timetablelaw03.BitsetNames': WHATEVER THE INPUT: true; the input reads as it did. -/
def bitsetNamesSpec : ChangeSpec := { name := "bitsetNames", fn := fun _ => fun
  | [] => { results := [.lit (.bool true)], args := [] }
  | _ => none }
def bitsetNamesRow : OpenClaim := { program := "ytaaladekamfpnaadoor", sum := "3313a373c0af3877e8cf2bea00974cb6e691736b0dfca456d9b0728adcd0914e", func := "timetable/timetablelaw03.BitsetNames", spec := "bitsetNames", unfollowed := true, recurses := true, named := ["math/bits.deBruijn64tab"], apart := false, laid := [("math/bits.deBruijn64tab", laid_math_bits_deBruijn64tab)] }
def BitsetNamesSaid : Prop := bitsetNamesRow.holds Tryd.pinned (OpenSpec.ofChange bitsetNamesSpec)

/-- ITS FALSE NEIGHBOUR: 'it returns false'. Refute it at one input. -/
def bitsetNamesWrong : ChangeSpec := { name := "bitsetNames", fn := fun _ => fun
  | [] => { results := [.lit (.bool false)], args := [] }
  | _ => none }
def BitsetNamesWrongFalsely : Prop := bitsetNamesRow.holds Tryd.pinned (OpenSpec.ofChange bitsetNamesWrong)

/-- 'timetablelaw03.BitsetSpreads': WHATEVER THE INPUT: true; the input reads as it did. -/
def bitsetSpreadsSpec : ChangeSpec := { name := "bitsetSpreads", fn := fun _ => fun
  | [d1, d2, d3, d4] => { results := [.lit (.bool true)], args := [d1, d2, d3, d4] }
  | _ => none }
def bitsetSpreadsRow : OpenClaim := { program := "ytaaladekamfpnaadoor", sum := "3313a373c0af3877e8cf2bea00974cb6e691736b0dfca456d9b0728adcd0914e", func := "timetable/timetablelaw03.BitsetSpreads", spec := "bitsetSpreads", unfollowed := true, recurses := true, named := ["math/bits.deBruijn64tab"], apart := false, laid := [("math/bits.deBruijn64tab", laid_math_bits_deBruijn64tab)] }
def BitsetSpreadsSaid : Prop := bitsetSpreadsRow.holds Tryd.pinned (OpenSpec.ofChange bitsetSpreadsSpec)

/-- ITS FALSE NEIGHBOUR: 'it returns false'. Refute it at one input. -/
def bitsetSpreadsWrong : ChangeSpec := { name := "bitsetSpreads", fn := fun _ => fun
  | [d1, d2, d3, d4] => { results := [.lit (.bool false)], args := [d1, d2, d3, d4] }
  | _ => none }
def BitsetSpreadsWrongFalsely : Prop := bitsetSpreadsRow.holds Tryd.pinned (OpenSpec.ofChange bitsetSpreadsWrong)

/-- 'timetablelaw03.BitsetRules': WHATEVER THE INPUT: true; the input reads as it did. -/
def bitsetRulesSpec : ChangeSpec := { name := "bitsetRules", fn := fun _ => fun
  | [d1, d2, d3] => { results := [.lit (.bool true)], args := [d1, d2, d3] }
  | _ => none }
def bitsetRulesRow : OpenClaim := { program := "ytaaladekamfpnaadoor", sum := "3313a373c0af3877e8cf2bea00974cb6e691736b0dfca456d9b0728adcd0914e", func := "timetable/timetablelaw03.BitsetRules", spec := "bitsetRules", unfollowed := true, recurses := true, named := ["math/bits.deBruijn64tab"], apart := false, laid := [("math/bits.deBruijn64tab", laid_math_bits_deBruijn64tab)] }
def BitsetRulesSaid : Prop := bitsetRulesRow.holds Tryd.pinned (OpenSpec.ofChange bitsetRulesSpec)

/-- ITS FALSE NEIGHBOUR: 'it returns false'. Refute it at one input. -/
def bitsetRulesWrong : ChangeSpec := { name := "bitsetRules", fn := fun _ => fun
  | [d1, d2, d3] => { results := [.lit (.bool false)], args := [d1, d2, d3] }
  | _ => none }
def BitsetRulesWrongFalsely : Prop := bitsetRulesRow.holds Tryd.pinned (OpenSpec.ofChange bitsetRulesWrong)

/-- 'timetablelaw03.BitsetScript': WHATEVER THE INPUT: true; the input reads as it did. -/
def bitsetScriptSpec : ChangeSpec := { name := "bitsetScript", fn := fun _ => fun
  | [d1, d2, d3] => { results := [.lit (.bool true)], args := [d1, d2, d3] }
  | _ => none }
def bitsetScriptRow : OpenClaim := { program := "ytaaladekamfpnaadoor", sum := "3313a373c0af3877e8cf2bea00974cb6e691736b0dfca456d9b0728adcd0914e", func := "timetable/timetablelaw03.BitsetScript", spec := "bitsetScript", unfollowed := true, recurses := true, named := ["math/bits.deBruijn64tab"], apart := false, laid := [("math/bits.deBruijn64tab", laid_math_bits_deBruijn64tab)] }
def BitsetScriptSaid : Prop := bitsetScriptRow.holds Tryd.pinned (OpenSpec.ofChange bitsetScriptSpec)

/-- ITS FALSE NEIGHBOUR: 'it returns false'. Refute it at one input. -/
def bitsetScriptWrong : ChangeSpec := { name := "bitsetScript", fn := fun _ => fun
  | [d1, d2, d3] => { results := [.lit (.bool false)], args := [d1, d2, d3] }
  | _ => none }
def BitsetScriptWrongFalsely : Prop := bitsetScriptRow.holds Tryd.pinned (OpenSpec.ofChange bitsetScriptWrong)

/-- 'timetablelaw03.BitsetNil': WHATEVER THE INPUT: true; the input reads as it did. -/
def bitsetNilSpec : ChangeSpec := { name := "bitsetNil", fn := fun _ => fun
  | [d] => { results := [.lit (.bool true)], args := [d] }
  | _ => none }
def bitsetNilRow : OpenClaim := { program := "ytaaladekamfpnaadoor", sum := "3313a373c0af3877e8cf2bea00974cb6e691736b0dfca456d9b0728adcd0914e", func := "timetable/timetablelaw03.BitsetNil", spec := "bitsetNil", unfollowed := true, recurses := true, named := ["math/bits.deBruijn64tab"], apart := false, laid := [("math/bits.deBruijn64tab", laid_math_bits_deBruijn64tab)] }
def BitsetNilSaid : Prop := bitsetNilRow.holds Tryd.pinned (OpenSpec.ofChange bitsetNilSpec)

/-- ITS FALSE NEIGHBOUR: 'it returns false'. Refute it at one input. -/
def bitsetNilWrong : ChangeSpec := { name := "bitsetNil", fn := fun _ => fun
  | [d] => { results := [.lit (.bool false)], args := [d] }
  | _ => none }
def BitsetNilWrongFalsely : Prop := bitsetNilRow.holds Tryd.pinned (OpenSpec.ofChange bitsetNilWrong)

/- THE SECOND FORM. 'bulk': how many values and letters a reading holds, each counted each time it is reached (what is shared counts as often as it is met; a slice's spare places count too). A statement '..UptoSaid' is the law's where the arguments, and the package variables that the reading takes, are together of bulk at most 1048576: NARROWER than '..Said'. Prove '..Said' where nothing that the law and all that it calls make is longer than what came in: it says more and counts as full. Else prove '..UptoSaid'. A law counts once. -/
mutual
def uptoBulk {H : Type} : DataW H → Nat
  | .lit (.string bytes) => bytes.length + 1
  | .lit _ => 1
  | .nil => 1
  | .ptr d => uptoBulk d + 1
  | .slice elems spare => uptoBulkAll elems + uptoBulkAll spare + 1
  | .agg parts => uptoBulkAll parts + 1
  | .iface _ d => uptoBulk d + 1
  | .map entries => uptoBulkEntries entries + 1
  | .held _ => 1
def uptoBulkAll {H : Type} : List (DataW H) → Nat
  | [] => 0
  | d :: r => uptoBulk d + uptoBulkAll r
def uptoBulkEntries {H : Type} : List (Lit × DataW H) → Nat
  | [] => 0
  | x :: r => uptoBulkEntry x + uptoBulkEntries r
def uptoBulkEntry {H : Type} : Lit × DataW H → Nat
  | (.string bytes, d) => bytes.length + uptoBulk d + 1
  | (_, d) => uptoBulk d + 1
 end
def uptoSmall : (H : Type) → List (DataW H) → Bool := fun _ ds => decide (uptoBulkAll ds ≤ 1048576)
def OpenSpec.upto (s : _root_.Go.ChangeSpec) : _root_.Go.OpenSpec := { _root_.Go.OpenSpec.ofChange s with cond := some uptoSmall }

/-- 'timetablelaw03.BitsetWide', WHERE WHAT IT READS IS OF BULK AT MOST 1048576: true; the input reads as it did. -/
def bitsetWideUptoRow : OpenClaim := { program := "ytaaladekamfpnaadoor", sum := "3313a373c0af3877e8cf2bea00974cb6e691736b0dfca456d9b0728adcd0914e", func := "timetable/timetablelaw03.BitsetWide", spec := "bitsetWide", named := ["math/bits.deBruijn64tab"], apart := false, laid := [("math/bits.deBruijn64tab", laid_math_bits_deBruijn64tab)], narrowed := true }
def BitsetWideUptoSaid : Prop := bitsetWideUptoRow.holds Tryd.pinned (OpenSpec.upto bitsetWideSpec)

/-- 'timetablelaw03.BitsetNames', WHERE WHAT IT READS IS OF BULK AT MOST 1048576: true; the input reads as it did. -/
def bitsetNamesUptoRow : OpenClaim := { program := "ytaaladekamfpnaadoor", sum := "3313a373c0af3877e8cf2bea00974cb6e691736b0dfca456d9b0728adcd0914e", func := "timetable/timetablelaw03.BitsetNames", spec := "bitsetNames", unfollowed := true, recurses := true, named := ["math/bits.deBruijn64tab"], apart := false, laid := [("math/bits.deBruijn64tab", laid_math_bits_deBruijn64tab)], narrowed := true }
def BitsetNamesUptoSaid : Prop := bitsetNamesUptoRow.holds Tryd.pinned (OpenSpec.upto bitsetNamesSpec)

/-- 'timetablelaw03.BitsetSpreads', WHERE WHAT IT READS IS OF BULK AT MOST 1048576: true; the input reads as it did. -/
def bitsetSpreadsUptoRow : OpenClaim := { program := "ytaaladekamfpnaadoor", sum := "3313a373c0af3877e8cf2bea00974cb6e691736b0dfca456d9b0728adcd0914e", func := "timetable/timetablelaw03.BitsetSpreads", spec := "bitsetSpreads", unfollowed := true, recurses := true, named := ["math/bits.deBruijn64tab"], apart := false, laid := [("math/bits.deBruijn64tab", laid_math_bits_deBruijn64tab)], narrowed := true }
def BitsetSpreadsUptoSaid : Prop := bitsetSpreadsUptoRow.holds Tryd.pinned (OpenSpec.upto bitsetSpreadsSpec)

/-- 'timetablelaw03.BitsetRules', WHERE WHAT IT READS IS OF BULK AT MOST 1048576: true; the input reads as it did. -/
def bitsetRulesUptoRow : OpenClaim := { program := "ytaaladekamfpnaadoor", sum := "3313a373c0af3877e8cf2bea00974cb6e691736b0dfca456d9b0728adcd0914e", func := "timetable/timetablelaw03.BitsetRules", spec := "bitsetRules", unfollowed := true, recurses := true, named := ["math/bits.deBruijn64tab"], apart := false, laid := [("math/bits.deBruijn64tab", laid_math_bits_deBruijn64tab)], narrowed := true }
def BitsetRulesUptoSaid : Prop := bitsetRulesUptoRow.holds Tryd.pinned (OpenSpec.upto bitsetRulesSpec)

/-- 'timetablelaw03.BitsetScript', WHERE WHAT IT READS IS OF BULK AT MOST 1048576: true; the input reads as it did. -/
def bitsetScriptUptoRow : OpenClaim := { program := "ytaaladekamfpnaadoor", sum := "3313a373c0af3877e8cf2bea00974cb6e691736b0dfca456d9b0728adcd0914e", func := "timetable/timetablelaw03.BitsetScript", spec := "bitsetScript", unfollowed := true, recurses := true, named := ["math/bits.deBruijn64tab"], apart := false, laid := [("math/bits.deBruijn64tab", laid_math_bits_deBruijn64tab)], narrowed := true }
def BitsetScriptUptoSaid : Prop := bitsetScriptUptoRow.holds Tryd.pinned (OpenSpec.upto bitsetScriptSpec)

/-- 'timetablelaw03.BitsetNil', WHERE WHAT IT READS IS OF BULK AT MOST 1048576: true; the input reads as it did. -/
def bitsetNilUptoRow : OpenClaim := { program := "ytaaladekamfpnaadoor", sum := "3313a373c0af3877e8cf2bea00974cb6e691736b0dfca456d9b0728adcd0914e", func := "timetable/timetablelaw03.BitsetNil", spec := "bitsetNil", unfollowed := true, recurses := true, named := ["math/bits.deBruijn64tab"], apart := false, laid := [("math/bits.deBruijn64tab", laid_math_bits_deBruijn64tab)], narrowed := true }
def BitsetNilUptoSaid : Prop := bitsetNilUptoRow.holds Tryd.pinned (OpenSpec.upto bitsetNilSpec)

end Rows
end Go.Proofs.YtaaladekamfpnaaDoor
