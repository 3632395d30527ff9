/-
  DERIVED. GIVEN WITH THE SEED: THE CARDS: each row of YtmihinhbcncbfaaDoorRows.lean that lists a variable, with what it lists TIED to the program's text (the seventh form; the later family's looks); each row that meets fmt, with fmt's text TOLD by the authors' own Lean function (tested against real Go, not proved from fmt's source: count such statements apart). THE CARD IS WHAT COUNTS. Prove the row's statement (the work); the ties are given (YtmihinhbcncbfaaDoorTie.lean); close each card by the builder's one call (the guide's Derived/Test/ToyasCard.lean, 'card_holds'). Laid BY PROGRAM, IN A SANDBOX (cutbox-door.mjs). By AI agents, Wed Nov 11 2026. No macro, syntax, notation, axiom, sorry.
-/
import Derived.Test.YtmihinhbcncbfaaDoorRows
import GoSem.ClaimSeven
namespace Go.Proofs.YtmihinhbcncbfaaDoor
namespace Rows

/-- THE TIED CARD OF 'timetablelaw06.ShowAdds'. -/
def showAddsCard : Claim7 := { stood := { row := showAddsRow, standIns := [], harness := (true, "6258077cbb4c96a61e7ac2a3d71b845cb2b4c41cd142845af540a5b6e2b80c54"), looks := true }, kinds := [], alts := [], laidByText := true, laidKinds := [.data, .data, .data, .listed, .data], laidTests := true, laidLooks := .later }
def ShowAddsCardSaid : Prop := Claim7.holds Tryd.pinned (.plain (OpenSpec.ofChange showAddsSpec)) showAddsCard

/-- THE TIED CARD OF 'timetablelaw06.ShowNames'. -/
def showNamesCard : Claim7 := { stood := { row := showNamesRow, standIns := [], harness := (true, "6258077cbb4c96a61e7ac2a3d71b845cb2b4c41cd142845af540a5b6e2b80c54"), looks := true }, kinds := [], alts := [], laidByText := true, laidKinds := [.data, .data, .data, .listed, .data], laidTests := true, laidLooks := .later }
def ShowNamesCardSaid : Prop := Claim7.holds Tryd.pinned (.plain (OpenSpec.ofChange showNamesSpec)) showNamesCard

/-- THE TIED CARD OF 'timetablelaw06.ShowLines'. -/
def showLinesCard : Claim7 := { stood := { row := showLinesRow, standIns := [], harness := (true, "6258077cbb4c96a61e7ac2a3d71b845cb2b4c41cd142845af540a5b6e2b80c54"), looks := true }, kinds := [], alts := [], laidByText := true, laidKinds := [.data, .data, .data, .listed, .data], laidTests := true, laidLooks := .later }
def ShowLinesCardSaid : Prop := Claim7.holds Tryd.pinned (.plain (OpenSpec.ofChange showLinesSpec)) showLinesCard

/-- THE SECOND FORM's CARD OF 'timetablelaw06.ShowAdds'. -/
def showAddsUptoCard : Claim7 := { stood := { row := showAddsUptoRow, standIns := [], harness := (true, "6258077cbb4c96a61e7ac2a3d71b845cb2b4c41cd142845af540a5b6e2b80c54"), looks := true }, kinds := [], alts := [], laidByText := true, laidKinds := [.data, .data, .data, .listed, .data], laidTests := true, laidLooks := .later }
def ShowAddsUptoCardSaid : Prop := Claim7.holds Tryd.pinned (.plain (OpenSpec.upto showAddsSpec)) showAddsUptoCard

/-- THE SECOND FORM's CARD OF 'timetablelaw06.ShowNames'. -/
def showNamesUptoCard : Claim7 := { stood := { row := showNamesUptoRow, standIns := [], harness := (true, "6258077cbb4c96a61e7ac2a3d71b845cb2b4c41cd142845af540a5b6e2b80c54"), looks := true }, kinds := [], alts := [], laidByText := true, laidKinds := [.data, .data, .data, .listed, .data], laidTests := true, laidLooks := .later }
def ShowNamesUptoCardSaid : Prop := Claim7.holds Tryd.pinned (.plain (OpenSpec.upto showNamesSpec)) showNamesUptoCard

/-- THE SECOND FORM's CARD OF 'timetablelaw06.ShowLines'. -/
def showLinesUptoCard : Claim7 := { stood := { row := showLinesUptoRow, standIns := [], harness := (true, "6258077cbb4c96a61e7ac2a3d71b845cb2b4c41cd142845af540a5b6e2b80c54"), looks := true }, kinds := [], alts := [], laidByText := true, laidKinds := [.data, .data, .data, .listed, .data], laidTests := true, laidLooks := .later }
def ShowLinesUptoCardSaid : Prop := Claim7.holds Tryd.pinned (.plain (OpenSpec.upto showLinesSpec)) showLinesUptoCard
end Rows
end Go.Proofs.YtmihinhbcncbfaaDoor
