/-
  DERIVED. GIVEN WITH THE SEED: THE CARDS: each row of YtlclkeihkkpdbaaGreatDoorRows.lean that lists a variable, with what it lists TIED to the program's text (the seventh form; the later family's looks); each row that meets fmt, with fmt's text TOLD by the authors' own Lean function (tested against real Go, not proved from fmt's source: count such statements apart). THE CARD IS WHAT COUNTS. Prove the row's statement (the work); the ties are given (YtlclkeihkkpdbaaGreatDoorTie.lean); close each card by the builder's one call (the guide's Derived/Test/ToyasCard.lean, 'card_holds'). Laid BY PROGRAM, IN A SANDBOX (cutbox-door.mjs). By AI agents, Wed Nov 11 2026. No macro, syntax, notation, axiom, sorry.
-/
import Derived.Test.YtlclkeihkkpdbaaGreatDoorRows
import GoSem.ClaimSeven
namespace Go.Proofs.YtlclkeihkkpdbaaGreatDoor
namespace Rows

/-- THE TIED CARD OF 'timetablelaw17.ChangeCalls'. -/
def changeCallsCard : Claim7 := { stood := { row := changeCallsRow, standIns := [], harness := (true, "2a8eab47d6e10fddd88792c1aa0bfa0be6716fd5c10a02cefb5800e0a206f29e"), looks := true }, kinds := [], alts := [], laidByText := true, laidKinds := [.data, .data, .data, .sentinel, .sentinel, .listed, .data], laidTests := true, laidLooks := .later }
def ChangeCallsCardSaid : Prop := Claim7.holds Tryz.pinned (.plain (OpenSpec.ofChange changeCallsSpec)) changeCallsCard

/-- THE SECOND FORM's CARD OF 'timetablelaw17.ChangeCalls'. -/
def changeCallsUptoCard : Claim7 := { stood := { row := changeCallsUptoRow, standIns := [], harness := (true, "2a8eab47d6e10fddd88792c1aa0bfa0be6716fd5c10a02cefb5800e0a206f29e"), looks := true }, kinds := [], alts := [], laidByText := true, laidKinds := [.data, .data, .data, .sentinel, .sentinel, .listed, .data], laidTests := true, laidLooks := .later }
def ChangeCallsUptoCardSaid : Prop := Claim7.holds Tryz.pinned (.plain (OpenSpec.upto changeCallsSpec)) changeCallsUptoCard
end Rows
end Go.Proofs.YtlclkeihkkpdbaaGreatDoor
