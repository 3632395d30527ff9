/-
  DERIVED. GIVEN WITH THE SEED: THE CARDS: each row of YtaaladekamfpnaaDoorRows.lean that lists a variable, with what it lists TIED to the program's text (the seventh form; the later family's looks); each row that meets fmt, with fmt's text TOLD by the authors' own Lean function (tested against real Go, not proved from fmt's source: count such statements apart). THE CARD IS WHAT COUNTS. Prove the row's statement (the work); the ties are given (YtaaladekamfpnaaDoorTie.lean); close each card by the builder's one call (the guide's Derived/Test/ToyasCard.lean, 'card_holds'). Laid BY PROGRAM, IN A SANDBOX (cutbox-door.mjs). By AI agents, Wed Nov 11 2026. No macro, syntax, notation, axiom, sorry.
-/
import Derived.Test.YtaaladekamfpnaaDoorRows
import GoSem.ClaimSeven
namespace Go.Proofs.YtaaladekamfpnaaDoor
namespace Rows

/-- THE TIED CARD OF 'timetablelaw03.BitsetWide'. -/
def bitsetWideCard : Claim7 := { stood := { row := bitsetWideRow, standIns := [], harness := (true, "23efcd27eaeb5f8082b700f1f63f4fe0c9d28bf9bd753e55655948f818b3dd49"), looks := false }, kinds := [], alts := [], laidByText := true, laidKinds := [.data], laidTests := true, laidLooks := .later }
def BitsetWideCardSaid : Prop := Claim7.holds Tryd.pinned (.plain (OpenSpec.ofChange bitsetWideSpec)) bitsetWideCard

/-- THE TIED CARD OF 'timetablelaw03.BitsetNames'. -/
def bitsetNamesCard : Claim7 := { stood := { row := bitsetNamesRow, standIns := [], harness := (true, "23efcd27eaeb5f8082b700f1f63f4fe0c9d28bf9bd753e55655948f818b3dd49"), looks := false }, kinds := [], alts := [], laidByText := true, laidKinds := [.data], laidTests := true, laidLooks := .later }
def BitsetNamesCardSaid : Prop := Claim7.holds Tryd.pinned (.plain (OpenSpec.ofChange bitsetNamesSpec)) bitsetNamesCard

/-- THE TIED CARD OF 'timetablelaw03.BitsetSpreads'. -/
def bitsetSpreadsCard : Claim7 := { stood := { row := bitsetSpreadsRow, standIns := [], harness := (true, "23efcd27eaeb5f8082b700f1f63f4fe0c9d28bf9bd753e55655948f818b3dd49"), looks := false }, kinds := [], alts := [], laidByText := true, laidKinds := [.data], laidTests := true, laidLooks := .later }
def BitsetSpreadsCardSaid : Prop := Claim7.holds Tryd.pinned (.plain (OpenSpec.ofChange bitsetSpreadsSpec)) bitsetSpreadsCard

/-- THE TIED CARD OF 'timetablelaw03.BitsetRules'. -/
def bitsetRulesCard : Claim7 := { stood := { row := bitsetRulesRow, standIns := [], harness := (true, "23efcd27eaeb5f8082b700f1f63f4fe0c9d28bf9bd753e55655948f818b3dd49"), looks := false }, kinds := [], alts := [], laidByText := true, laidKinds := [.data], laidTests := true, laidLooks := .later }
def BitsetRulesCardSaid : Prop := Claim7.holds Tryd.pinned (.plain (OpenSpec.ofChange bitsetRulesSpec)) bitsetRulesCard

/-- THE TIED CARD OF 'timetablelaw03.BitsetScript'. -/
def bitsetScriptCard : Claim7 := { stood := { row := bitsetScriptRow, standIns := [], harness := (true, "23efcd27eaeb5f8082b700f1f63f4fe0c9d28bf9bd753e55655948f818b3dd49"), looks := false }, kinds := [], alts := [], laidByText := true, laidKinds := [.data], laidTests := true, laidLooks := .later }
def BitsetScriptCardSaid : Prop := Claim7.holds Tryd.pinned (.plain (OpenSpec.ofChange bitsetScriptSpec)) bitsetScriptCard

/-- THE TIED CARD OF 'timetablelaw03.BitsetNil'. -/
def bitsetNilCard : Claim7 := { stood := { row := bitsetNilRow, standIns := [], harness := (true, "23efcd27eaeb5f8082b700f1f63f4fe0c9d28bf9bd753e55655948f818b3dd49"), looks := false }, kinds := [], alts := [], laidByText := true, laidKinds := [.data], laidTests := true, laidLooks := .later }
def BitsetNilCardSaid : Prop := Claim7.holds Tryd.pinned (.plain (OpenSpec.ofChange bitsetNilSpec)) bitsetNilCard

/-- THE SECOND FORM's CARD OF 'timetablelaw03.BitsetWide'. -/
def bitsetWideUptoCard : Claim7 := { stood := { row := bitsetWideUptoRow, standIns := [], harness := (true, "23efcd27eaeb5f8082b700f1f63f4fe0c9d28bf9bd753e55655948f818b3dd49"), looks := false }, kinds := [], alts := [], laidByText := true, laidKinds := [.data], laidTests := true, laidLooks := .later }
def BitsetWideUptoCardSaid : Prop := Claim7.holds Tryd.pinned (.plain (OpenSpec.upto bitsetWideSpec)) bitsetWideUptoCard

/-- THE SECOND FORM's CARD OF 'timetablelaw03.BitsetNames'. -/
def bitsetNamesUptoCard : Claim7 := { stood := { row := bitsetNamesUptoRow, standIns := [], harness := (true, "23efcd27eaeb5f8082b700f1f63f4fe0c9d28bf9bd753e55655948f818b3dd49"), looks := false }, kinds := [], alts := [], laidByText := true, laidKinds := [.data], laidTests := true, laidLooks := .later }
def BitsetNamesUptoCardSaid : Prop := Claim7.holds Tryd.pinned (.plain (OpenSpec.upto bitsetNamesSpec)) bitsetNamesUptoCard

/-- THE SECOND FORM's CARD OF 'timetablelaw03.BitsetSpreads'. -/
def bitsetSpreadsUptoCard : Claim7 := { stood := { row := bitsetSpreadsUptoRow, standIns := [], harness := (true, "23efcd27eaeb5f8082b700f1f63f4fe0c9d28bf9bd753e55655948f818b3dd49"), looks := false }, kinds := [], alts := [], laidByText := true, laidKinds := [.data], laidTests := true, laidLooks := .later }
def BitsetSpreadsUptoCardSaid : Prop := Claim7.holds Tryd.pinned (.plain (OpenSpec.upto bitsetSpreadsSpec)) bitsetSpreadsUptoCard

/-- THE SECOND FORM's CARD OF 'timetablelaw03.BitsetRules'. -/
def bitsetRulesUptoCard : Claim7 := { stood := { row := bitsetRulesUptoRow, standIns := [], harness := (true, "23efcd27eaeb5f8082b700f1f63f4fe0c9d28bf9bd753e55655948f818b3dd49"), looks := false }, kinds := [], alts := [], laidByText := true, laidKinds := [.data], laidTests := true, laidLooks := .later }
def BitsetRulesUptoCardSaid : Prop := Claim7.holds Tryd.pinned (.plain (OpenSpec.upto bitsetRulesSpec)) bitsetRulesUptoCard

/-- THE SECOND FORM's CARD OF 'timetablelaw03.BitsetScript'. -/
def bitsetScriptUptoCard : Claim7 := { stood := { row := bitsetScriptUptoRow, standIns := [], harness := (true, "23efcd27eaeb5f8082b700f1f63f4fe0c9d28bf9bd753e55655948f818b3dd49"), looks := false }, kinds := [], alts := [], laidByText := true, laidKinds := [.data], laidTests := true, laidLooks := .later }
def BitsetScriptUptoCardSaid : Prop := Claim7.holds Tryd.pinned (.plain (OpenSpec.upto bitsetScriptSpec)) bitsetScriptUptoCard

/-- THE SECOND FORM's CARD OF 'timetablelaw03.BitsetNil'. -/
def bitsetNilUptoCard : Claim7 := { stood := { row := bitsetNilUptoRow, standIns := [], harness := (true, "23efcd27eaeb5f8082b700f1f63f4fe0c9d28bf9bd753e55655948f818b3dd49"), looks := false }, kinds := [], alts := [], laidByText := true, laidKinds := [.data], laidTests := true, laidLooks := .later }
def BitsetNilUptoCardSaid : Prop := Claim7.holds Tryd.pinned (.plain (OpenSpec.upto bitsetNilSpec)) bitsetNilUptoCard
end Rows
end Go.Proofs.YtaaladekamfpnaaDoor
