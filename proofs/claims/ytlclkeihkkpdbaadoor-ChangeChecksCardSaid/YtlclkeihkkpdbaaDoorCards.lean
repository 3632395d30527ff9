/-
  DERIVED. GIVEN WITH THE SEED: THE CARDS: each row of YtlclkeihkkpdbaaDoorRows.lean that lists a variable, with what it lists TIED to the program's text (the seventh form; the later family's looks); each row that meets fmt, with fmt's text TOLD by the authors' own Lean function (tested against real Go, not proved from fmt's source: count such statements apart). THE CARD IS WHAT COUNTS. Prove the row's statement (the work); the ties are given (YtlclkeihkkpdbaaDoorTie.lean); close each card by the builder's one call (the guide's Derived/Test/ToyasCard.lean, 'card_holds'). Laid BY PROGRAM, IN A SANDBOX (cutbox-door.mjs). By AI agents, Wed Nov 11 2026. No macro, syntax, notation, axiom, sorry.
-/
import Derived.Test.YtlclkeihkkpdbaaDoorRows
import GoSem.ClaimSeven
namespace Go.Proofs.YtlclkeihkkpdbaaDoor
namespace Rows

/-- THE TIED CARD OF 'timetablelaw17.ChangeLines'. -/
def changeLinesCard : Claim7 := { stood := { row := changeLinesRow, standIns := [], harness := (true, "7b01cfc1b00b39912d7a198756d4c962db17ba7040a918a5e149b35f21e36f32"), looks := true }, kinds := [], alts := [], laidByText := true, laidKinds := [.data, .data, .data, .sentinel, .sentinel, .listed, .data], laidTests := true, laidLooks := .later }
def ChangeLinesCardSaid : Prop := Claim7.holds Tryd.pinned (.plain (OpenSpec.ofChange changeLinesSpec)) changeLinesCard

/-- THE TIED CARD OF 'timetablelaw17.ChangeChecks'. -/
def changeChecksCard : Claim7 := { stood := { row := changeChecksRow, standIns := [], harness := (true, "7b01cfc1b00b39912d7a198756d4c962db17ba7040a918a5e149b35f21e36f32"), looks := true }, kinds := [], alts := [], laidByText := true, laidKinds := [.data, .data, .data, .sentinel, .sentinel, .listed, .data], laidTests := true, laidLooks := .later }
def ChangeChecksCardSaid : Prop := Claim7.holds Tryd.pinned (.plain (OpenSpec.ofChange changeChecksSpec)) changeChecksCard

/-- THE TIED CARD OF 'timetablelaw17.ChangeBack'. -/
def changeBackCard : Claim7 := { stood := { row := changeBackRow, standIns := [], harness := (true, "7b01cfc1b00b39912d7a198756d4c962db17ba7040a918a5e149b35f21e36f32"), looks := true }, kinds := [], alts := [], laidByText := true, laidKinds := [.data, .data, .data, .sentinel, .sentinel, .listed, .data], laidTests := true, laidLooks := .later }
def ChangeBackCardSaid : Prop := Claim7.holds Tryd.pinned (.plain (OpenSpec.ofChange changeBackSpec)) changeBackCard

/-- THE TIED CARD OF 'timetablelaw17.ChangeFaults'. -/
def changeFaultsCard : Claim7 := { stood := { row := changeFaultsRow, standIns := [], harness := (true, "7b01cfc1b00b39912d7a198756d4c962db17ba7040a918a5e149b35f21e36f32"), looks := true }, kinds := [], alts := [], laidByText := true, laidKinds := [.data, .data, .data, .sentinel, .sentinel, .listed, .data], laidTests := true, laidLooks := .later }
def ChangeFaultsCardSaid : Prop := Claim7.holds Tryd.pinned (.plain (OpenSpec.ofChange changeFaultsSpec)) changeFaultsCard

/-- THE TIED CARD OF 'timetablelaw17.ChangeNames'. -/
def changeNamesCard : Claim7 := { stood := { row := changeNamesRow, standIns := [], harness := (true, "7b01cfc1b00b39912d7a198756d4c962db17ba7040a918a5e149b35f21e36f32"), looks := true }, kinds := [], alts := [], laidByText := true, laidKinds := [.data, .data, .data, .sentinel, .sentinel, .listed, .data], laidTests := true, laidLooks := .later }
def ChangeNamesCardSaid : Prop := Claim7.holds Tryd.pinned (.plain (OpenSpec.ofChange changeNamesSpec)) changeNamesCard

/-- THE SECOND FORM's CARD OF 'timetablelaw17.ChangeLines'. -/
def changeLinesUptoCard : Claim7 := { stood := { row := changeLinesUptoRow, standIns := [], harness := (true, "7b01cfc1b00b39912d7a198756d4c962db17ba7040a918a5e149b35f21e36f32"), looks := true }, kinds := [], alts := [], laidByText := true, laidKinds := [.data, .data, .data, .sentinel, .sentinel, .listed, .data], laidTests := true, laidLooks := .later }
def ChangeLinesUptoCardSaid : Prop := Claim7.holds Tryd.pinned (.plain (OpenSpec.upto changeLinesSpec)) changeLinesUptoCard

/-- THE SECOND FORM's CARD OF 'timetablelaw17.ChangeChecks'. -/
def changeChecksUptoCard : Claim7 := { stood := { row := changeChecksUptoRow, standIns := [], harness := (true, "7b01cfc1b00b39912d7a198756d4c962db17ba7040a918a5e149b35f21e36f32"), looks := true }, kinds := [], alts := [], laidByText := true, laidKinds := [.data, .data, .data, .sentinel, .sentinel, .listed, .data], laidTests := true, laidLooks := .later }
def ChangeChecksUptoCardSaid : Prop := Claim7.holds Tryd.pinned (.plain (OpenSpec.upto changeChecksSpec)) changeChecksUptoCard

/-- THE SECOND FORM's CARD OF 'timetablelaw17.ChangeBack'. -/
def changeBackUptoCard : Claim7 := { stood := { row := changeBackUptoRow, standIns := [], harness := (true, "7b01cfc1b00b39912d7a198756d4c962db17ba7040a918a5e149b35f21e36f32"), looks := true }, kinds := [], alts := [], laidByText := true, laidKinds := [.data, .data, .data, .sentinel, .sentinel, .listed, .data], laidTests := true, laidLooks := .later }
def ChangeBackUptoCardSaid : Prop := Claim7.holds Tryd.pinned (.plain (OpenSpec.upto changeBackSpec)) changeBackUptoCard

/-- THE SECOND FORM's CARD OF 'timetablelaw17.ChangeFaults'. -/
def changeFaultsUptoCard : Claim7 := { stood := { row := changeFaultsUptoRow, standIns := [], harness := (true, "7b01cfc1b00b39912d7a198756d4c962db17ba7040a918a5e149b35f21e36f32"), looks := true }, kinds := [], alts := [], laidByText := true, laidKinds := [.data, .data, .data, .sentinel, .sentinel, .listed, .data], laidTests := true, laidLooks := .later }
def ChangeFaultsUptoCardSaid : Prop := Claim7.holds Tryd.pinned (.plain (OpenSpec.upto changeFaultsSpec)) changeFaultsUptoCard

/-- THE SECOND FORM's CARD OF 'timetablelaw17.ChangeNames'. -/
def changeNamesUptoCard : Claim7 := { stood := { row := changeNamesUptoRow, standIns := [], harness := (true, "7b01cfc1b00b39912d7a198756d4c962db17ba7040a918a5e149b35f21e36f32"), looks := true }, kinds := [], alts := [], laidByText := true, laidKinds := [.data, .data, .data, .sentinel, .sentinel, .listed, .data], laidTests := true, laidLooks := .later }
def ChangeNamesUptoCardSaid : Prop := Claim7.holds Tryd.pinned (.plain (OpenSpec.upto changeNamesSpec)) changeNamesUptoCard
end Rows
end Go.Proofs.YtlclkeihkkpdbaaDoor
