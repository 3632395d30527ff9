/-
  DERIVED. GIVEN WITH THE SEED: THE CARDS: each row of YtmihinhbcncbfaaGreatDoorRows.lean that lists a variable, with what it lists TIED to the program's text (the seventh form; the later family's looks); each row that meets fmt, with fmt's text TOLD by the authors' own Lean function (tested against real Go, not proved from fmt's source: count such statements apart). THE CARD IS WHAT COUNTS. Prove the row's statement (the work); the ties are given (YtmihinhbcncbfaaGreatDoorTie.lean); close each card by the builder's one call (the guide's Derived/Test/ToyasCard.lean, 'card_holds'). Laid BY PROGRAM, IN A SANDBOX (cutbox-door.mjs). By AI agents, Wed Nov 11 2026. No macro, syntax, notation, axiom, sorry.
-/
import Derived.Test.YtmihinhbcncbfaaGreatDoorRows
import GoSem.ClaimSeven
namespace Go.Proofs.YtmihinhbcncbfaaGreatDoor
namespace Rows

/-- THE TIED CARD OF 'timetablelaw06.ShowCalls'. -/
def showCallsCard : Claim7 := { stood := { row := showCallsRow, standIns := [], harness := (true, "ad30b9b2273041135be153cb98e37ac1633446fc149522d91e9d1bde308e08e4"), looks := true }, kinds := [], alts := [], laidByText := true, laidKinds := [.data, .data, .data, .listed, .data], laidTests := true, laidLooks := .later }
def ShowCallsCardSaid : Prop := Claim7.holds Tryz.pinned (.plain (OpenSpec.ofChange showCallsSpec)) showCallsCard

/-- THE TIED CARD OF 'timetablelaw06.ShowBack'. -/
def showBackCard : Claim7 := { stood := { row := showBackRow, standIns := [], harness := (true, "ad30b9b2273041135be153cb98e37ac1633446fc149522d91e9d1bde308e08e4"), looks := true }, kinds := [], alts := [], laidByText := true, laidKinds := [.data, .data, .data, .listed, .data], laidTests := true, laidLooks := .later }
def ShowBackCardSaid : Prop := Claim7.holds Tryz.pinned (.plain (OpenSpec.ofChange showBackSpec)) showBackCard

/-- THE TIED CARD OF 'timetablelaw06.ShowCanon'. -/
def showCanonCard : Claim7 := { stood := { row := showCanonRow, standIns := [], harness := (true, "ad30b9b2273041135be153cb98e37ac1633446fc149522d91e9d1bde308e08e4"), looks := true }, kinds := [], alts := [], laidByText := true, laidKinds := [.data, .data, .data, .listed, .data], laidTests := true, laidLooks := .later }
def ShowCanonCardSaid : Prop := Claim7.holds Tryz.pinned (.plain (OpenSpec.ofChange showCanonSpec)) showCanonCard

/-- THE SECOND FORM's CARD OF 'timetablelaw06.ShowCalls'. -/
def showCallsUptoCard : Claim7 := { stood := { row := showCallsUptoRow, standIns := [], harness := (true, "ad30b9b2273041135be153cb98e37ac1633446fc149522d91e9d1bde308e08e4"), looks := true }, kinds := [], alts := [], laidByText := true, laidKinds := [.data, .data, .data, .listed, .data], laidTests := true, laidLooks := .later }
def ShowCallsUptoCardSaid : Prop := Claim7.holds Tryz.pinned (.plain (OpenSpec.upto showCallsSpec)) showCallsUptoCard

/-- THE SECOND FORM's CARD OF 'timetablelaw06.ShowBack'. -/
def showBackUptoCard : Claim7 := { stood := { row := showBackUptoRow, standIns := [], harness := (true, "ad30b9b2273041135be153cb98e37ac1633446fc149522d91e9d1bde308e08e4"), looks := true }, kinds := [], alts := [], laidByText := true, laidKinds := [.data, .data, .data, .listed, .data], laidTests := true, laidLooks := .later }
def ShowBackUptoCardSaid : Prop := Claim7.holds Tryz.pinned (.plain (OpenSpec.upto showBackSpec)) showBackUptoCard

/-- THE SECOND FORM's CARD OF 'timetablelaw06.ShowCanon'. -/
def showCanonUptoCard : Claim7 := { stood := { row := showCanonUptoRow, standIns := [], harness := (true, "ad30b9b2273041135be153cb98e37ac1633446fc149522d91e9d1bde308e08e4"), looks := true }, kinds := [], alts := [], laidByText := true, laidKinds := [.data, .data, .data, .listed, .data], laidTests := true, laidLooks := .later }
def ShowCanonUptoCardSaid : Prop := Claim7.holds Tryz.pinned (.plain (OpenSpec.upto showCanonSpec)) showCanonUptoCard
end Rows
end Go.Proofs.YtmihinhbcncbfaaGreatDoor
