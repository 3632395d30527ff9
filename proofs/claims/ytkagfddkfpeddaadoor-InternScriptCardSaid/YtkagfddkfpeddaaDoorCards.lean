/-
  DERIVED. GIVEN WITH THE SEED: THE CARDS: each row of YtkagfddkfpeddaaDoorRows.lean that lists a variable, with what it lists TIED to the program's text (the seventh form; the later family's looks); each row that meets fmt, with fmt's text TOLD by the authors' own Lean function (tested against real Go, not proved from fmt's source: count such statements apart). THE CARD IS WHAT COUNTS. Prove the row's statement (the work); the ties are given (YtkagfddkfpeddaaDoorTie.lean); close each card by the builder's one call (the guide's Derived/Test/ToyasCard.lean, 'card_holds'). Laid BY PROGRAM, IN A SANDBOX (cutbox-door.mjs). By AI agents, Wed Nov 11 2026. No macro, syntax, notation, axiom, sorry.
-/
import Derived.Test.YtkagfddkfpeddaaDoorRows
import GoSem.ClaimSeven
namespace Go.Proofs.YtkagfddkfpeddaaDoor
namespace Rows

/-- THE TIED CARD OF 'timetablelaw07.InternOrder'. -/
def internOrderCard : Claim7 := { stood := { row := internOrderRow, standIns := [], harness := (true, "306e32894f480770641b43bb6e91390d55dffeab5bd5391edf17457904bf0914"), looks := true }, kinds := [], alts := [], laidByText := true, laidKinds := [.listed, .data], laidTests := true, laidLooks := .later }
def InternOrderCardSaid : Prop := Claim7.holds Tryd.pinned (.plain (OpenSpec.ofChange internOrderSpec)) internOrderCard

/-- THE TIED CARD OF 'timetablelaw07.InternNames'. -/
def internNamesCard : Claim7 := { stood := { row := internNamesRow, standIns := [], harness := (true, "306e32894f480770641b43bb6e91390d55dffeab5bd5391edf17457904bf0914"), looks := true }, kinds := [], alts := [], laidByText := true, laidKinds := [.listed, .data], laidTests := true, laidLooks := .later }
def InternNamesCardSaid : Prop := Claim7.holds Tryd.pinned (.plain (OpenSpec.ofChange internNamesSpec)) internNamesCard

/-- THE TIED CARD OF 'timetablelaw07.InternBoth'. -/
def internBothCard : Claim7 := { stood := { row := internBothRow, standIns := [], harness := (true, "306e32894f480770641b43bb6e91390d55dffeab5bd5391edf17457904bf0914"), looks := true }, kinds := [], alts := [], laidByText := true, laidKinds := [.listed, .data], laidTests := true, laidLooks := .later }
def InternBothCardSaid : Prop := Claim7.holds Tryd.pinned (.plain (OpenSpec.ofChange internBothSpec)) internBothCard

/-- THE TIED CARD OF 'timetablelaw07.InternClones'. -/
def internClonesCard : Claim7 := { stood := { row := internClonesRow, standIns := [], harness := (true, "306e32894f480770641b43bb6e91390d55dffeab5bd5391edf17457904bf0914"), looks := true }, kinds := [], alts := [], laidByText := true, laidKinds := [.listed, .data], laidTests := true, laidLooks := .later }
def InternClonesCardSaid : Prop := Claim7.holds Tryd.pinned (.plain (OpenSpec.ofChange internClonesSpec)) internClonesCard

/-- THE TIED CARD OF 'timetablelaw07.InternScript'. -/
def internScriptCard : Claim7 := { stood := { row := internScriptRow, standIns := [], harness := (true, "306e32894f480770641b43bb6e91390d55dffeab5bd5391edf17457904bf0914"), looks := true }, kinds := [], alts := [], laidByText := true, laidKinds := [.listed, .data], laidTests := true, laidLooks := .later }
def InternScriptCardSaid : Prop := Claim7.holds Tryd.pinned (.plain (OpenSpec.ofChange internScriptSpec)) internScriptCard

/-- THE TIED CARD OF 'timetablelaw07.InternNil'. -/
def internNilCard : Claim7 := { stood := { row := internNilRow, standIns := [], harness := (true, "306e32894f480770641b43bb6e91390d55dffeab5bd5391edf17457904bf0914"), looks := true }, kinds := [], alts := [], laidByText := true, laidKinds := [.listed, .data], laidTests := true, laidLooks := .later }
def InternNilCardSaid : Prop := Claim7.holds Tryd.pinned (.plain (OpenSpec.ofChange internNilSpec)) internNilCard

/-- THE SECOND FORM's CARD OF 'timetablelaw07.InternOrder'. -/
def internOrderUptoCard : Claim7 := { stood := { row := internOrderUptoRow, standIns := [], harness := (true, "306e32894f480770641b43bb6e91390d55dffeab5bd5391edf17457904bf0914"), looks := true }, kinds := [], alts := [], laidByText := true, laidKinds := [.listed, .data], laidTests := true, laidLooks := .later }
def InternOrderUptoCardSaid : Prop := Claim7.holds Tryd.pinned (.plain (OpenSpec.upto internOrderSpec)) internOrderUptoCard

/-- THE SECOND FORM's CARD OF 'timetablelaw07.InternNames'. -/
def internNamesUptoCard : Claim7 := { stood := { row := internNamesUptoRow, standIns := [], harness := (true, "306e32894f480770641b43bb6e91390d55dffeab5bd5391edf17457904bf0914"), looks := true }, kinds := [], alts := [], laidByText := true, laidKinds := [.listed, .data], laidTests := true, laidLooks := .later }
def InternNamesUptoCardSaid : Prop := Claim7.holds Tryd.pinned (.plain (OpenSpec.upto internNamesSpec)) internNamesUptoCard

/-- THE SECOND FORM's CARD OF 'timetablelaw07.InternBoth'. -/
def internBothUptoCard : Claim7 := { stood := { row := internBothUptoRow, standIns := [], harness := (true, "306e32894f480770641b43bb6e91390d55dffeab5bd5391edf17457904bf0914"), looks := true }, kinds := [], alts := [], laidByText := true, laidKinds := [.listed, .data], laidTests := true, laidLooks := .later }
def InternBothUptoCardSaid : Prop := Claim7.holds Tryd.pinned (.plain (OpenSpec.upto internBothSpec)) internBothUptoCard

/-- THE SECOND FORM's CARD OF 'timetablelaw07.InternClones'. -/
def internClonesUptoCard : Claim7 := { stood := { row := internClonesUptoRow, standIns := [], harness := (true, "306e32894f480770641b43bb6e91390d55dffeab5bd5391edf17457904bf0914"), looks := true }, kinds := [], alts := [], laidByText := true, laidKinds := [.listed, .data], laidTests := true, laidLooks := .later }
def InternClonesUptoCardSaid : Prop := Claim7.holds Tryd.pinned (.plain (OpenSpec.upto internClonesSpec)) internClonesUptoCard

/-- THE SECOND FORM's CARD OF 'timetablelaw07.InternScript'. -/
def internScriptUptoCard : Claim7 := { stood := { row := internScriptUptoRow, standIns := [], harness := (true, "306e32894f480770641b43bb6e91390d55dffeab5bd5391edf17457904bf0914"), looks := true }, kinds := [], alts := [], laidByText := true, laidKinds := [.listed, .data], laidTests := true, laidLooks := .later }
def InternScriptUptoCardSaid : Prop := Claim7.holds Tryd.pinned (.plain (OpenSpec.upto internScriptSpec)) internScriptUptoCard

/-- THE SECOND FORM's CARD OF 'timetablelaw07.InternNil'. -/
def internNilUptoCard : Claim7 := { stood := { row := internNilUptoRow, standIns := [], harness := (true, "306e32894f480770641b43bb6e91390d55dffeab5bd5391edf17457904bf0914"), looks := true }, kinds := [], alts := [], laidByText := true, laidKinds := [.listed, .data], laidTests := true, laidLooks := .later }
def InternNilUptoCardSaid : Prop := Claim7.holds Tryd.pinned (.plain (OpenSpec.upto internNilSpec)) internNilUptoCard
end Rows
end Go.Proofs.YtkagfddkfpeddaaDoor
