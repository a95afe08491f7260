/-
  DERIVED. GIVEN WITH THE SEED: THE CARDS: each row of YtpgdfpcihamldaaGreatDoorRows.lean that lists a variable, with what it lists TIED to the program's text (the seventh form; the later family's looks); each row that meets fmt, with fmt's text TOLD by the authors' own Lean function (tested against real Go, not proved from fmt's source: count such statements apart). THE CARD IS WHAT COUNTS. Prove the row's statement (the work); the ties are given (YtpgdfpcihamldaaGreatDoorTie.lean); close each card by the builder's one call (the guide's Derived/Test/ToyasCard.lean, 'card_holds'). Laid BY PROGRAM, IN A SANDBOX (cutbox-door.mjs). By AI agents, Wed Nov 11 2026. No macro, syntax, notation, axiom, sorry.
-/
import Derived.Test.YtpgdfpcihamldaaGreatDoorRows
import GoSem.ClaimSeven
namespace Go.Proofs.YtpgdfpcihamldaaGreatDoor
namespace Rows

/-- THE TIED CARD OF 'redresstop.TopSchemas'. -/
def topSchemasCard : Claim7 := { stood := { row := topSchemasRow, standIns := [], harness := (true, "9734f520c2c134906b4831ce8c05a8f4677f1b3811c71c076739d94783dc6ebd"), looks := true }, kinds := [], alts := [], laidByText := true, laidKinds := [.data, .data, .data, .widerDeep], laidTests := true, laidLooks := .later }
def TopSchemasCardSaid : Prop := Claim7.holds Tryz.pinned (.plain (OpenSpec.ofChange topSchemasSpec)) topSchemasCard

/-- THE TIED CARD OF 'redresstop.TopLettered'. -/
def topLetteredCard : Claim7 := { stood := { row := topLetteredRow, standIns := [], harness := (true, "9734f520c2c134906b4831ce8c05a8f4677f1b3811c71c076739d94783dc6ebd"), looks := true }, kinds := [], alts := [], laidByText := true, laidKinds := [.data, .data, .data, .widerDeep], laidTests := true, laidLooks := .later }
def TopLetteredCardSaid : Prop := Claim7.holds Tryz.pinned (.plain (OpenSpec.ofChange topLetteredSpec)) topLetteredCard

/-- THE TIED CARD OF 'redresstop.TopValued'. -/
def topValuedCard : Claim7 := { stood := { row := topValuedRow, standIns := [], harness := (true, "9734f520c2c134906b4831ce8c05a8f4677f1b3811c71c076739d94783dc6ebd"), looks := true }, kinds := [], alts := [], laidByText := true, laidKinds := [.data, .data, .data, .widerDeep], laidTests := true, laidLooks := .later }
def TopValuedCardSaid : Prop := Claim7.holds Tryz.pinned (.plain (OpenSpec.ofChange topValuedSpec)) topValuedCard

/-- THE TIED CARD OF 'redresstop.TopRuns'. -/
def topRunsCard : Claim7 := { stood := { row := topRunsRow, standIns := [], harness := (true, "9734f520c2c134906b4831ce8c05a8f4677f1b3811c71c076739d94783dc6ebd"), looks := true }, kinds := [], alts := [], laidByText := true, laidKinds := [.data, .data, .data, .sentinel, .sentinel, .widerDeep], laidTests := true, laidLooks := .later }
def TopRunsCardSaid : Prop := Claim7.holds Tryz.pinned (.plain (OpenSpec.ofChange topRunsSpec)) topRunsCard

/-- THE SECOND FORM's CARD OF 'redresstop.TopSchemas'. -/
def topSchemasUptoCard : Claim7 := { stood := { row := topSchemasUptoRow, standIns := [], harness := (true, "9734f520c2c134906b4831ce8c05a8f4677f1b3811c71c076739d94783dc6ebd"), looks := true }, kinds := [], alts := [], laidByText := true, laidKinds := [.data, .data, .data, .widerDeep], laidTests := true, laidLooks := .later }
def TopSchemasUptoCardSaid : Prop := Claim7.holds Tryz.pinned (.plain (OpenSpec.upto topSchemasSpec)) topSchemasUptoCard

/-- THE SECOND FORM's CARD OF 'redresstop.TopLettered'. -/
def topLetteredUptoCard : Claim7 := { stood := { row := topLetteredUptoRow, standIns := [], harness := (true, "9734f520c2c134906b4831ce8c05a8f4677f1b3811c71c076739d94783dc6ebd"), looks := true }, kinds := [], alts := [], laidByText := true, laidKinds := [.data, .data, .data, .widerDeep], laidTests := true, laidLooks := .later }
def TopLetteredUptoCardSaid : Prop := Claim7.holds Tryz.pinned (.plain (OpenSpec.upto topLetteredSpec)) topLetteredUptoCard

/-- THE SECOND FORM's CARD OF 'redresstop.TopValued'. -/
def topValuedUptoCard : Claim7 := { stood := { row := topValuedUptoRow, standIns := [], harness := (true, "9734f520c2c134906b4831ce8c05a8f4677f1b3811c71c076739d94783dc6ebd"), looks := true }, kinds := [], alts := [], laidByText := true, laidKinds := [.data, .data, .data, .widerDeep], laidTests := true, laidLooks := .later }
def TopValuedUptoCardSaid : Prop := Claim7.holds Tryz.pinned (.plain (OpenSpec.upto topValuedSpec)) topValuedUptoCard

/-- THE SECOND FORM's CARD OF 'redresstop.TopRuns'. -/
def topRunsUptoCard : Claim7 := { stood := { row := topRunsUptoRow, standIns := [], harness := (true, "9734f520c2c134906b4831ce8c05a8f4677f1b3811c71c076739d94783dc6ebd"), looks := true }, kinds := [], alts := [], laidByText := true, laidKinds := [.data, .data, .data, .sentinel, .sentinel, .widerDeep], laidTests := true, laidLooks := .later }
def TopRunsUptoCardSaid : Prop := Claim7.holds Tryz.pinned (.plain (OpenSpec.upto topRunsSpec)) topRunsUptoCard
end Rows
end Go.Proofs.YtpgdfpcihamldaaGreatDoor
