/-
  DERIVED. GIVEN WITH THE SEED: THE CARDS: each row of YtihlnciknnddkaaDoorRows.lean that lists a variable, with what it lists TIED to the program's text (the seventh form; the later family's looks); each row that meets fmt, with fmt's text TOLD by the authors' own Lean function (tested against real Go, not proved from fmt's source: count such statements apart). THE CARD IS WHAT COUNTS. Prove the row's statement (the work); the ties are given (YtihlnciknnddkaaDoorTie.lean); close each card by the builder's one call (the guide's Derived/Test/ToyasCard.lean, 'card_holds'). Laid BY PROGRAM, IN A SANDBOX (cutbox-door.mjs). By AI agents, Wed Nov 11 2026. No macro, syntax, notation, axiom, sorry.
-/
import Derived.Test.YtihlnciknnddkaaDoorRows
import GoSem.ClaimSeven
namespace Go.Proofs.YtihlnciknnddkaaDoor
namespace Rows

/-- THE TIED CARD OF 'timetablelaw01.TickBack'. -/
def tickBackCard : Claim7 := { stood := { row := tickBackRow, standIns := [], harness := (true, "56fa1ede817ad5699168d68cb42e183e96726c57d25fa535ecaefa25492671ff"), looks := true }, kinds := [], alts := [], laidByText := true, laidKinds := [.data, .data, .data, .sentinel, .sentinel], laidTests := true, laidLooks := .later }
def TickBackCardSaid : Prop := Claim7.holds Tryd.pinned (.plain (OpenSpec.ofChange tickBackSpec)) tickBackCard

/-- THE TIED CARD OF 'timetablelaw01.TickNames'. -/
def tickNamesCard : Claim7 := { stood := { row := tickNamesRow, standIns := [], harness := (true, "56fa1ede817ad5699168d68cb42e183e96726c57d25fa535ecaefa25492671ff"), looks := true }, kinds := [], alts := [], laidByText := true, laidKinds := [.data, .data, .data, .sentinel, .sentinel], laidTests := true, laidLooks := .later }
def TickNamesCardSaid : Prop := Claim7.holds Tryd.pinned (.plain (OpenSpec.ofChange tickNamesSpec)) tickNamesCard

/-- THE TIED CARD OF 'timetablelaw01.TickCalls'. -/
def tickCallsCard : Claim7 := { stood := { row := tickCallsRow, standIns := [], harness := (true, "56fa1ede817ad5699168d68cb42e183e96726c57d25fa535ecaefa25492671ff"), looks := true }, kinds := [], alts := [], laidByText := true, laidKinds := [.data, .data, .data, .sentinel, .sentinel], laidTests := true, laidLooks := .later }
def TickCallsCardSaid : Prop := Claim7.holds Tryd.pinned (.plain (OpenSpec.ofChange tickCallsSpec)) tickCallsCard

/-- THE SECOND FORM's CARD OF 'timetablelaw01.TickBack'. -/
def tickBackUptoCard : Claim7 := { stood := { row := tickBackUptoRow, standIns := [], harness := (true, "56fa1ede817ad5699168d68cb42e183e96726c57d25fa535ecaefa25492671ff"), looks := true }, kinds := [], alts := [], laidByText := true, laidKinds := [.data, .data, .data, .sentinel, .sentinel], laidTests := true, laidLooks := .later }
def TickBackUptoCardSaid : Prop := Claim7.holds Tryd.pinned (.plain (OpenSpec.upto tickBackSpec)) tickBackUptoCard

/-- THE SECOND FORM's CARD OF 'timetablelaw01.TickNames'. -/
def tickNamesUptoCard : Claim7 := { stood := { row := tickNamesUptoRow, standIns := [], harness := (true, "56fa1ede817ad5699168d68cb42e183e96726c57d25fa535ecaefa25492671ff"), looks := true }, kinds := [], alts := [], laidByText := true, laidKinds := [.data, .data, .data, .sentinel, .sentinel], laidTests := true, laidLooks := .later }
def TickNamesUptoCardSaid : Prop := Claim7.holds Tryd.pinned (.plain (OpenSpec.upto tickNamesSpec)) tickNamesUptoCard

/-- THE SECOND FORM's CARD OF 'timetablelaw01.TickCalls'. -/
def tickCallsUptoCard : Claim7 := { stood := { row := tickCallsUptoRow, standIns := [], harness := (true, "56fa1ede817ad5699168d68cb42e183e96726c57d25fa535ecaefa25492671ff"), looks := true }, kinds := [], alts := [], laidByText := true, laidKinds := [.data, .data, .data, .sentinel, .sentinel], laidTests := true, laidLooks := .later }
def TickCallsUptoCardSaid : Prop := Claim7.holds Tryd.pinned (.plain (OpenSpec.upto tickCallsSpec)) tickCallsUptoCard
end Rows
end Go.Proofs.YtihlnciknnddkaaDoor
