/-
  DERIVED. GIVEN WITH THE SEED: THE CARDS: each row of YteonefgbdphmiaaGreatDoorRows.lean that lists a variable, with what it lists TIED to the program's text (the seventh form; the later family's looks); each row that meets fmt, with fmt's text TOLD by the authors' own Lean function (tested against real Go, not proved from fmt's source: count such statements apart). THE CARD IS WHAT COUNTS. Prove the row's statement (the work); the ties are given (YteonefgbdphmiaaGreatDoorTie.lean); close each card by the builder's one call (the guide's Derived/Test/ToyasCard.lean, 'card_holds'). Laid BY PROGRAM, IN A SANDBOX (cutbox-door.mjs). By AI agents, Wed Nov 11 2026. No macro, syntax, notation, axiom, sorry.
-/
import Derived.Test.YteonefgbdphmiaaGreatDoorRows
import GoSem.ClaimSeven
namespace Go.Proofs.YteonefgbdphmiaaGreatDoor
namespace Rows

/-- THE TIED CARD OF 'timetablelaw05.SheetOrder'. -/
def sheetOrderCard : Claim7 := { stood := { row := sheetOrderRow, standIns := [], harness := (true, "c1901fc3be3fb01b001a5be43714c9d12891af199cb5a8fbb2e76ffb9c85a0dc"), looks := true }, kinds := [], alts := [], laidByText := true, laidKinds := [.data, .data, .data, .sentinel, .sentinel, .listed, .data], laidTests := true, laidLooks := .later }
def SheetOrderCardSaid : Prop := Claim7.holds Tryz.pinned (.plain (OpenSpec.ofChange sheetOrderSpec)) sheetOrderCard

/-- THE TIED CARD OF 'timetablelaw05.SheetJoins'. -/
def sheetJoinsCard : Claim7 := { stood := { row := sheetJoinsRow, standIns := [], harness := (true, "c1901fc3be3fb01b001a5be43714c9d12891af199cb5a8fbb2e76ffb9c85a0dc"), looks := true }, kinds := [], alts := [], laidByText := true, laidKinds := [.data, .data, .data, .sentinel, .sentinel, .listed, .data], laidTests := true, laidLooks := .later }
def SheetJoinsCardSaid : Prop := Claim7.holds Tryz.pinned (.plain (OpenSpec.ofChange sheetJoinsSpec)) sheetJoinsCard

/-- THE TIED CARD OF 'timetablelaw05.SheetLess'. -/
def sheetLessCard : Claim7 := { stood := { row := sheetLessRow, standIns := [], harness := (true, "c1901fc3be3fb01b001a5be43714c9d12891af199cb5a8fbb2e76ffb9c85a0dc"), looks := true }, kinds := [], alts := [], laidByText := true, laidKinds := [.data, .data, .data, .sentinel, .sentinel, .listed, .data], laidTests := true, laidLooks := .later }
def SheetLessCardSaid : Prop := Claim7.holds Tryz.pinned (.plain (OpenSpec.ofChange sheetLessSpec)) sheetLessCard

/-- THE TIED CARD OF 'timetablelaw05.SheetNames'. -/
def sheetNamesCard : Claim7 := { stood := { row := sheetNamesRow, standIns := [], harness := (true, "c1901fc3be3fb01b001a5be43714c9d12891af199cb5a8fbb2e76ffb9c85a0dc"), looks := true }, kinds := [], alts := [], laidByText := true, laidKinds := [.data, .data, .data, .sentinel, .sentinel, .listed, .data], laidTests := true, laidLooks := .later }
def SheetNamesCardSaid : Prop := Claim7.holds Tryz.pinned (.plain (OpenSpec.ofChange sheetNamesSpec)) sheetNamesCard

/-- THE TIED CARD OF 'timetablelaw05.SheetBack'. -/
def sheetBackCard : Claim7 := { stood := { row := sheetBackRow, standIns := [], harness := (true, "c1901fc3be3fb01b001a5be43714c9d12891af199cb5a8fbb2e76ffb9c85a0dc"), looks := true }, kinds := [], alts := [], laidByText := true, laidKinds := [.data, .data, .data, .sentinel, .sentinel, .listed, .data], laidTests := true, laidLooks := .later }
def SheetBackCardSaid : Prop := Claim7.holds Tryz.pinned (.plain (OpenSpec.ofChange sheetBackSpec)) sheetBackCard

/-- THE TIED CARD OF 'timetablelaw05.SheetCuts'. -/
def sheetCutsCard : Claim7 := { stood := { row := sheetCutsRow, standIns := [], harness := (true, "c1901fc3be3fb01b001a5be43714c9d12891af199cb5a8fbb2e76ffb9c85a0dc"), looks := true }, kinds := [], alts := [], laidByText := true, laidKinds := [.data, .data, .data, .sentinel, .sentinel, .listed, .data], laidTests := true, laidLooks := .later }
def SheetCutsCardSaid : Prop := Claim7.holds Tryz.pinned (.plain (OpenSpec.ofChange sheetCutsSpec)) sheetCutsCard

/-- THE SECOND FORM's CARD OF 'timetablelaw05.SheetOrder'. -/
def sheetOrderUptoCard : Claim7 := { stood := { row := sheetOrderUptoRow, standIns := [], harness := (true, "c1901fc3be3fb01b001a5be43714c9d12891af199cb5a8fbb2e76ffb9c85a0dc"), looks := true }, kinds := [], alts := [], laidByText := true, laidKinds := [.data, .data, .data, .sentinel, .sentinel, .listed, .data], laidTests := true, laidLooks := .later }
def SheetOrderUptoCardSaid : Prop := Claim7.holds Tryz.pinned (.plain (OpenSpec.upto sheetOrderSpec)) sheetOrderUptoCard

/-- THE SECOND FORM's CARD OF 'timetablelaw05.SheetJoins'. -/
def sheetJoinsUptoCard : Claim7 := { stood := { row := sheetJoinsUptoRow, standIns := [], harness := (true, "c1901fc3be3fb01b001a5be43714c9d12891af199cb5a8fbb2e76ffb9c85a0dc"), looks := true }, kinds := [], alts := [], laidByText := true, laidKinds := [.data, .data, .data, .sentinel, .sentinel, .listed, .data], laidTests := true, laidLooks := .later }
def SheetJoinsUptoCardSaid : Prop := Claim7.holds Tryz.pinned (.plain (OpenSpec.upto sheetJoinsSpec)) sheetJoinsUptoCard

/-- THE SECOND FORM's CARD OF 'timetablelaw05.SheetLess'. -/
def sheetLessUptoCard : Claim7 := { stood := { row := sheetLessUptoRow, standIns := [], harness := (true, "c1901fc3be3fb01b001a5be43714c9d12891af199cb5a8fbb2e76ffb9c85a0dc"), looks := true }, kinds := [], alts := [], laidByText := true, laidKinds := [.data, .data, .data, .sentinel, .sentinel, .listed, .data], laidTests := true, laidLooks := .later }
def SheetLessUptoCardSaid : Prop := Claim7.holds Tryz.pinned (.plain (OpenSpec.upto sheetLessSpec)) sheetLessUptoCard

/-- THE SECOND FORM's CARD OF 'timetablelaw05.SheetNames'. -/
def sheetNamesUptoCard : Claim7 := { stood := { row := sheetNamesUptoRow, standIns := [], harness := (true, "c1901fc3be3fb01b001a5be43714c9d12891af199cb5a8fbb2e76ffb9c85a0dc"), looks := true }, kinds := [], alts := [], laidByText := true, laidKinds := [.data, .data, .data, .sentinel, .sentinel, .listed, .data], laidTests := true, laidLooks := .later }
def SheetNamesUptoCardSaid : Prop := Claim7.holds Tryz.pinned (.plain (OpenSpec.upto sheetNamesSpec)) sheetNamesUptoCard

/-- THE SECOND FORM's CARD OF 'timetablelaw05.SheetBack'. -/
def sheetBackUptoCard : Claim7 := { stood := { row := sheetBackUptoRow, standIns := [], harness := (true, "c1901fc3be3fb01b001a5be43714c9d12891af199cb5a8fbb2e76ffb9c85a0dc"), looks := true }, kinds := [], alts := [], laidByText := true, laidKinds := [.data, .data, .data, .sentinel, .sentinel, .listed, .data], laidTests := true, laidLooks := .later }
def SheetBackUptoCardSaid : Prop := Claim7.holds Tryz.pinned (.plain (OpenSpec.upto sheetBackSpec)) sheetBackUptoCard

/-- THE SECOND FORM's CARD OF 'timetablelaw05.SheetCuts'. -/
def sheetCutsUptoCard : Claim7 := { stood := { row := sheetCutsUptoRow, standIns := [], harness := (true, "c1901fc3be3fb01b001a5be43714c9d12891af199cb5a8fbb2e76ffb9c85a0dc"), looks := true }, kinds := [], alts := [], laidByText := true, laidKinds := [.data, .data, .data, .sentinel, .sentinel, .listed, .data], laidTests := true, laidLooks := .later }
def SheetCutsUptoCardSaid : Prop := Claim7.holds Tryz.pinned (.plain (OpenSpec.upto sheetCutsSpec)) sheetCutsUptoCard
end Rows
end Go.Proofs.YteonefgbdphmiaaGreatDoor
