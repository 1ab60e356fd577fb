/-
  DERIVED. GIVEN WITH THE SEED: THE CARDS: each row of YtcinmjajfccbaaaGreatDoorRows.lean that lists a variable, with what it lists TIED to the program's text (the seventh form; the later family's looks); each row that meets fmt, with fmt's text TOLD by the authors' own Lean function (tested against real Go, not proved from fmt's source: count such statements apart). THE CARD IS WHAT COUNTS. Prove the row's statement (the work); the ties are given (YtcinmjajfccbaaaGreatDoorTie.lean); close each card by the builder's one call (the guide's Derived/Test/ToyasCard.lean, 'card_holds'). Laid BY PROGRAM, IN A SANDBOX (cutbox-door.mjs). By AI agents, Wed Nov 11 2026. No macro, syntax, notation, axiom, sorry.
-/
import Derived.Test.YtcinmjajfccbaaaGreatDoorRows
import GoSem.ClaimSeven
namespace Go.Proofs.YtcinmjajfccbaaaGreatDoor
namespace Rows

/-- THE TIED CARD OF 'formularylaw8.EvalComes'. -/
def evalComesCard : Claim7 := { stood := { row := evalComesRow, standIns := [], harness := (true, "3b22fa7019d89c9902fe107877c68eb9768fb4da88a180678bacd3ce7cedeb8b"), looks := true }, kinds := [], alts := [], laidByText := true, laidKinds := [.data, .data, .data, .sentinel, .sentinel], laidTests := true, laidLooks := .later }
def EvalComesCardSaid : Prop := Claim7.holds Tryz.pinned (.plain (OpenSpec.ofChange evalComesSpec)) evalComesCard

/-- THE TIED CARD OF 'formularylaw8.EvalTexts'. -/
def evalTextsCard : Claim7 := { stood := { row := evalTextsRow, standIns := [], harness := (true, "3b22fa7019d89c9902fe107877c68eb9768fb4da88a180678bacd3ce7cedeb8b"), looks := true }, kinds := [], alts := [], laidByText := true, laidKinds := [.data, .data, .data, .sentinel, .sentinel], laidTests := true, laidLooks := .later }
def EvalTextsCardSaid : Prop := Claim7.holds Tryz.pinned (.plain (OpenSpec.ofChange evalTextsSpec)) evalTextsCard

/-- THE TIED CARD OF 'formularylaw8.EvalFuel'. -/
def evalFuelCard : Claim7 := { stood := { row := evalFuelRow, standIns := [], harness := (true, "3b22fa7019d89c9902fe107877c68eb9768fb4da88a180678bacd3ce7cedeb8b"), looks := true }, kinds := [], alts := [], laidByText := true, laidKinds := [.data, .data, .data, .sentinel, .sentinel], laidTests := true, laidLooks := .later }
def EvalFuelCardSaid : Prop := Claim7.holds Tryz.pinned (.plain (OpenSpec.ofChange evalFuelSpec)) evalFuelCard

/-- THE TIED CARD OF 'formularylaw8.EvalReckons'. -/
def evalReckonsCard : Claim7 := { stood := { row := evalReckonsRow, standIns := [], harness := (true, "3b22fa7019d89c9902fe107877c68eb9768fb4da88a180678bacd3ce7cedeb8b"), looks := true }, kinds := [], alts := [], laidByText := true, laidKinds := [.data, .data, .data, .sentinel, .sentinel], laidTests := true, laidLooks := .later }
def EvalReckonsCardSaid : Prop := Claim7.holds Tryz.pinned (.plain (OpenSpec.ofChange evalReckonsSpec)) evalReckonsCard

/-- THE TIED CARD OF 'formularylaw8.EvalShort'. -/
def evalShortCard : Claim7 := { stood := { row := evalShortRow, standIns := [], harness := (true, "3b22fa7019d89c9902fe107877c68eb9768fb4da88a180678bacd3ce7cedeb8b"), looks := true }, kinds := [], alts := [], laidByText := true, laidKinds := [.data, .data, .data, .sentinel, .sentinel], laidTests := true, laidLooks := .later }
def EvalShortCardSaid : Prop := Claim7.holds Tryz.pinned (.plain (OpenSpec.ofChange evalShortSpec)) evalShortCard

/-- THE TIED CARD OF 'formularylaw8.EvalNames'. -/
def evalNamesCard : Claim7 := { stood := { row := evalNamesRow, standIns := [], harness := (true, "3b22fa7019d89c9902fe107877c68eb9768fb4da88a180678bacd3ce7cedeb8b"), looks := true }, kinds := [], alts := [], laidByText := true, laidKinds := [.data, .data, .data, .sentinel, .sentinel], laidTests := true, laidLooks := .later }
def EvalNamesCardSaid : Prop := Claim7.holds Tryz.pinned (.plain (OpenSpec.ofChange evalNamesSpec)) evalNamesCard

/-- THE TIED CARD OF 'formularylaw8.EvalFaults'. -/
def evalFaultsCard : Claim7 := { stood := { row := evalFaultsRow, standIns := [], harness := (true, "3b22fa7019d89c9902fe107877c68eb9768fb4da88a180678bacd3ce7cedeb8b"), looks := true }, kinds := [], alts := [], laidByText := true, laidKinds := [.data, .data, .data, .sentinel, .sentinel], laidTests := true, laidLooks := .later }
def EvalFaultsCardSaid : Prop := Claim7.holds Tryz.pinned (.plain (OpenSpec.ofChange evalFaultsSpec)) evalFaultsCard

/-- THE SECOND FORM's CARD OF 'formularylaw8.EvalComes'. -/
def evalComesUptoCard : Claim7 := { stood := { row := evalComesUptoRow, standIns := [], harness := (true, "3b22fa7019d89c9902fe107877c68eb9768fb4da88a180678bacd3ce7cedeb8b"), looks := true }, kinds := [], alts := [], laidByText := true, laidKinds := [.data, .data, .data, .sentinel, .sentinel], laidTests := true, laidLooks := .later }
def EvalComesUptoCardSaid : Prop := Claim7.holds Tryz.pinned (.plain (OpenSpec.upto evalComesSpec)) evalComesUptoCard

/-- THE SECOND FORM's CARD OF 'formularylaw8.EvalTexts'. -/
def evalTextsUptoCard : Claim7 := { stood := { row := evalTextsUptoRow, standIns := [], harness := (true, "3b22fa7019d89c9902fe107877c68eb9768fb4da88a180678bacd3ce7cedeb8b"), looks := true }, kinds := [], alts := [], laidByText := true, laidKinds := [.data, .data, .data, .sentinel, .sentinel], laidTests := true, laidLooks := .later }
def EvalTextsUptoCardSaid : Prop := Claim7.holds Tryz.pinned (.plain (OpenSpec.upto evalTextsSpec)) evalTextsUptoCard

/-- THE SECOND FORM's CARD OF 'formularylaw8.EvalFuel'. -/
def evalFuelUptoCard : Claim7 := { stood := { row := evalFuelUptoRow, standIns := [], harness := (true, "3b22fa7019d89c9902fe107877c68eb9768fb4da88a180678bacd3ce7cedeb8b"), looks := true }, kinds := [], alts := [], laidByText := true, laidKinds := [.data, .data, .data, .sentinel, .sentinel], laidTests := true, laidLooks := .later }
def EvalFuelUptoCardSaid : Prop := Claim7.holds Tryz.pinned (.plain (OpenSpec.upto evalFuelSpec)) evalFuelUptoCard

/-- THE SECOND FORM's CARD OF 'formularylaw8.EvalReckons'. -/
def evalReckonsUptoCard : Claim7 := { stood := { row := evalReckonsUptoRow, standIns := [], harness := (true, "3b22fa7019d89c9902fe107877c68eb9768fb4da88a180678bacd3ce7cedeb8b"), looks := true }, kinds := [], alts := [], laidByText := true, laidKinds := [.data, .data, .data, .sentinel, .sentinel], laidTests := true, laidLooks := .later }
def EvalReckonsUptoCardSaid : Prop := Claim7.holds Tryz.pinned (.plain (OpenSpec.upto evalReckonsSpec)) evalReckonsUptoCard

/-- THE SECOND FORM's CARD OF 'formularylaw8.EvalShort'. -/
def evalShortUptoCard : Claim7 := { stood := { row := evalShortUptoRow, standIns := [], harness := (true, "3b22fa7019d89c9902fe107877c68eb9768fb4da88a180678bacd3ce7cedeb8b"), looks := true }, kinds := [], alts := [], laidByText := true, laidKinds := [.data, .data, .data, .sentinel, .sentinel], laidTests := true, laidLooks := .later }
def EvalShortUptoCardSaid : Prop := Claim7.holds Tryz.pinned (.plain (OpenSpec.upto evalShortSpec)) evalShortUptoCard

/-- THE SECOND FORM's CARD OF 'formularylaw8.EvalNames'. -/
def evalNamesUptoCard : Claim7 := { stood := { row := evalNamesUptoRow, standIns := [], harness := (true, "3b22fa7019d89c9902fe107877c68eb9768fb4da88a180678bacd3ce7cedeb8b"), looks := true }, kinds := [], alts := [], laidByText := true, laidKinds := [.data, .data, .data, .sentinel, .sentinel], laidTests := true, laidLooks := .later }
def EvalNamesUptoCardSaid : Prop := Claim7.holds Tryz.pinned (.plain (OpenSpec.upto evalNamesSpec)) evalNamesUptoCard

/-- THE SECOND FORM's CARD OF 'formularylaw8.EvalFaults'. -/
def evalFaultsUptoCard : Claim7 := { stood := { row := evalFaultsUptoRow, standIns := [], harness := (true, "3b22fa7019d89c9902fe107877c68eb9768fb4da88a180678bacd3ce7cedeb8b"), looks := true }, kinds := [], alts := [], laidByText := true, laidKinds := [.data, .data, .data, .sentinel, .sentinel], laidTests := true, laidLooks := .later }
def EvalFaultsUptoCardSaid : Prop := Claim7.holds Tryz.pinned (.plain (OpenSpec.upto evalFaultsSpec)) evalFaultsUptoCard
end Rows
end Go.Proofs.YtcinmjajfccbaaaGreatDoor
