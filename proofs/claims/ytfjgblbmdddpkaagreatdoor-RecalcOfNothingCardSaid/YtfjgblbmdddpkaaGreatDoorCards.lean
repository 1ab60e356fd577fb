/-
  DERIVED. GIVEN WITH THE SEED: THE CARDS: each row of YtfjgblbmdddpkaaGreatDoorRows.lean that lists a variable, with what it lists TIED to the program's text (the seventh form; the later family's looks); each row that meets fmt, with fmt's text TOLD by the authors' own Lean function (tested against real Go, not proved from fmt's source: count such statements apart). THE CARD IS WHAT COUNTS. Prove the row's statement (the work); the ties are given (YtfjgblbmdddpkaaGreatDoorTie.lean); close each card by the builder's one call (the guide's Derived/Test/ToyasCard.lean, 'card_holds'). Laid BY PROGRAM, IN A SANDBOX (cutbox-door.mjs). By AI agents, Wed Nov 11 2026. No macro, syntax, notation, axiom, sorry.
-/
import Derived.Test.YtfjgblbmdddpkaaGreatDoorRows
import GoSem.ClaimSeven
namespace Go.Proofs.YtfjgblbmdddpkaaGreatDoor
namespace Rows

/-- THE TIED CARD OF 'formularylaw11.SemLast'. -/
def semLastCard : Claim7 := { stood := { row := semLastRow, standIns := [], harness := (true, "6465726c86eb7ace299226873affa6bb62cd508173ee3bc608dfe3caf1f45202"), looks := true }, kinds := [], alts := [], laidByText := true, laidKinds := [.data, .data, .data, .sentinel, .sentinel], laidTests := true, laidLooks := .later }
def SemLastCardSaid : Prop := Claim7.holds Tryz.pinned (.plain (OpenSpec.ofChange semLastSpec)) semLastCard

/-- THE TIED CARD OF 'formularylaw11.SemStands'. -/
def semStandsCard : Claim7 := { stood := { row := semStandsRow, standIns := [], harness := (true, "6465726c86eb7ace299226873affa6bb62cd508173ee3bc608dfe3caf1f45202"), looks := true }, kinds := [], alts := [], laidByText := true, laidKinds := [.data, .data, .data, .sentinel, .sentinel], laidTests := true, laidLooks := .later }
def SemStandsCardSaid : Prop := Claim7.holds Tryz.pinned (.plain (OpenSpec.ofChange semStandsSpec)) semStandsCard

/-- THE TIED CARD OF 'formularylaw11.SemOf'. -/
def semOfCard : Claim7 := { stood := { row := semOfRow, standIns := [], harness := (true, "6465726c86eb7ace299226873affa6bb62cd508173ee3bc608dfe3caf1f45202"), looks := true }, kinds := [], alts := [], laidByText := true, laidKinds := [.data, .data, .data, .sentinel, .sentinel], laidTests := true, laidLooks := .later }
def SemOfCardSaid : Prop := Claim7.holds Tryz.pinned (.plain (OpenSpec.ofChange semOfSpec)) semOfCard

/-- THE TIED CARD OF 'formularylaw11.SemOfNothing'. -/
def semOfNothingCard : Claim7 := { stood := { row := semOfNothingRow, standIns := [], harness := (true, "6465726c86eb7ace299226873affa6bb62cd508173ee3bc608dfe3caf1f45202"), looks := true }, kinds := [], alts := [], laidByText := true, laidKinds := [.data, .data, .data, .sentinel, .sentinel], laidTests := true, laidLooks := .later }
def SemOfNothingCardSaid : Prop := Claim7.holds Tryz.pinned (.plain (OpenSpec.ofChange semOfNothingSpec)) semOfNothingCard

/-- THE TIED CARD OF 'formularylaw12.RecalcMeans'. -/
def recalcMeansCard : Claim7 := { stood := { row := recalcMeansRow, standIns := [], harness := (true, "6465726c86eb7ace299226873affa6bb62cd508173ee3bc608dfe3caf1f45202"), looks := true }, kinds := [], alts := [], laidByText := true, laidKinds := [.data, .data, .data, .sentinel, .sentinel], laidTests := true, laidLooks := .later }
def RecalcMeansCardSaid : Prop := Claim7.holds Tryz.pinned (.plain (OpenSpec.ofChange recalcMeansSpec)) recalcMeansCard

/-- THE TIED CARD OF 'formularylaw12.RecalcAgain'. -/
def recalcAgainCard : Claim7 := { stood := { row := recalcAgainRow, standIns := [], harness := (true, "6465726c86eb7ace299226873affa6bb62cd508173ee3bc608dfe3caf1f45202"), looks := true }, kinds := [], alts := [], laidByText := true, laidKinds := [.data, .data, .data, .sentinel, .sentinel], laidTests := true, laidLooks := .later }
def RecalcAgainCardSaid : Prop := Claim7.holds Tryz.pinned (.plain (OpenSpec.ofChange recalcAgainSpec)) recalcAgainCard

/-- THE TIED CARD OF 'formularylaw12.RecalcPlays'. -/
def recalcPlaysCard : Claim7 := { stood := { row := recalcPlaysRow, standIns := [], harness := (true, "6465726c86eb7ace299226873affa6bb62cd508173ee3bc608dfe3caf1f45202"), looks := true }, kinds := [], alts := [], laidByText := true, laidKinds := [.data, .data, .data, .sentinel, .sentinel], laidTests := true, laidLooks := .later }
def RecalcPlaysCardSaid : Prop := Claim7.holds Tryz.pinned (.plain (OpenSpec.ofChange recalcPlaysSpec)) recalcPlaysCard

/-- THE TIED CARD OF 'formularylaw12.RecalcOfNothing'. -/
def recalcOfNothingCard : Claim7 := { stood := { row := recalcOfNothingRow, standIns := [], harness := (true, "6465726c86eb7ace299226873affa6bb62cd508173ee3bc608dfe3caf1f45202"), looks := true }, kinds := [], alts := [], laidByText := true, laidKinds := [.data, .data, .data, .sentinel, .sentinel], laidTests := true, laidLooks := .later }
def RecalcOfNothingCardSaid : Prop := Claim7.holds Tryz.pinned (.plain (OpenSpec.ofChange recalcOfNothingSpec)) recalcOfNothingCard

/-- THE SECOND FORM's CARD OF 'formularylaw11.SemLast'. -/
def semLastUptoCard : Claim7 := { stood := { row := semLastUptoRow, standIns := [], harness := (true, "6465726c86eb7ace299226873affa6bb62cd508173ee3bc608dfe3caf1f45202"), looks := true }, kinds := [], alts := [], laidByText := true, laidKinds := [.data, .data, .data, .sentinel, .sentinel], laidTests := true, laidLooks := .later }
def SemLastUptoCardSaid : Prop := Claim7.holds Tryz.pinned (.plain (OpenSpec.upto semLastSpec)) semLastUptoCard

/-- THE SECOND FORM's CARD OF 'formularylaw11.SemStands'. -/
def semStandsUptoCard : Claim7 := { stood := { row := semStandsUptoRow, standIns := [], harness := (true, "6465726c86eb7ace299226873affa6bb62cd508173ee3bc608dfe3caf1f45202"), looks := true }, kinds := [], alts := [], laidByText := true, laidKinds := [.data, .data, .data, .sentinel, .sentinel], laidTests := true, laidLooks := .later }
def SemStandsUptoCardSaid : Prop := Claim7.holds Tryz.pinned (.plain (OpenSpec.upto semStandsSpec)) semStandsUptoCard

/-- THE SECOND FORM's CARD OF 'formularylaw11.SemOf'. -/
def semOfUptoCard : Claim7 := { stood := { row := semOfUptoRow, standIns := [], harness := (true, "6465726c86eb7ace299226873affa6bb62cd508173ee3bc608dfe3caf1f45202"), looks := true }, kinds := [], alts := [], laidByText := true, laidKinds := [.data, .data, .data, .sentinel, .sentinel], laidTests := true, laidLooks := .later }
def SemOfUptoCardSaid : Prop := Claim7.holds Tryz.pinned (.plain (OpenSpec.upto semOfSpec)) semOfUptoCard

/-- THE SECOND FORM's CARD OF 'formularylaw11.SemOfNothing'. -/
def semOfNothingUptoCard : Claim7 := { stood := { row := semOfNothingUptoRow, standIns := [], harness := (true, "6465726c86eb7ace299226873affa6bb62cd508173ee3bc608dfe3caf1f45202"), looks := true }, kinds := [], alts := [], laidByText := true, laidKinds := [.data, .data, .data, .sentinel, .sentinel], laidTests := true, laidLooks := .later }
def SemOfNothingUptoCardSaid : Prop := Claim7.holds Tryz.pinned (.plain (OpenSpec.upto semOfNothingSpec)) semOfNothingUptoCard

/-- THE SECOND FORM's CARD OF 'formularylaw12.RecalcMeans'. -/
def recalcMeansUptoCard : Claim7 := { stood := { row := recalcMeansUptoRow, standIns := [], harness := (true, "6465726c86eb7ace299226873affa6bb62cd508173ee3bc608dfe3caf1f45202"), looks := true }, kinds := [], alts := [], laidByText := true, laidKinds := [.data, .data, .data, .sentinel, .sentinel], laidTests := true, laidLooks := .later }
def RecalcMeansUptoCardSaid : Prop := Claim7.holds Tryz.pinned (.plain (OpenSpec.upto recalcMeansSpec)) recalcMeansUptoCard

/-- THE SECOND FORM's CARD OF 'formularylaw12.RecalcAgain'. -/
def recalcAgainUptoCard : Claim7 := { stood := { row := recalcAgainUptoRow, standIns := [], harness := (true, "6465726c86eb7ace299226873affa6bb62cd508173ee3bc608dfe3caf1f45202"), looks := true }, kinds := [], alts := [], laidByText := true, laidKinds := [.data, .data, .data, .sentinel, .sentinel], laidTests := true, laidLooks := .later }
def RecalcAgainUptoCardSaid : Prop := Claim7.holds Tryz.pinned (.plain (OpenSpec.upto recalcAgainSpec)) recalcAgainUptoCard

/-- THE SECOND FORM's CARD OF 'formularylaw12.RecalcPlays'. -/
def recalcPlaysUptoCard : Claim7 := { stood := { row := recalcPlaysUptoRow, standIns := [], harness := (true, "6465726c86eb7ace299226873affa6bb62cd508173ee3bc608dfe3caf1f45202"), looks := true }, kinds := [], alts := [], laidByText := true, laidKinds := [.data, .data, .data, .sentinel, .sentinel], laidTests := true, laidLooks := .later }
def RecalcPlaysUptoCardSaid : Prop := Claim7.holds Tryz.pinned (.plain (OpenSpec.upto recalcPlaysSpec)) recalcPlaysUptoCard

/-- THE SECOND FORM's CARD OF 'formularylaw12.RecalcOfNothing'. -/
def recalcOfNothingUptoCard : Claim7 := { stood := { row := recalcOfNothingUptoRow, standIns := [], harness := (true, "6465726c86eb7ace299226873affa6bb62cd508173ee3bc608dfe3caf1f45202"), looks := true }, kinds := [], alts := [], laidByText := true, laidKinds := [.data, .data, .data, .sentinel, .sentinel], laidTests := true, laidLooks := .later }
def RecalcOfNothingUptoCardSaid : Prop := Claim7.holds Tryz.pinned (.plain (OpenSpec.upto recalcOfNothingSpec)) recalcOfNothingUptoCard
end Rows
end Go.Proofs.YtfjgblbmdddpkaaGreatDoor
