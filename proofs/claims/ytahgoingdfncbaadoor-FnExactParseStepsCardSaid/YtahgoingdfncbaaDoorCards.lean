/-
  DERIVED. GIVEN WITH THE SEED: THE CARDS: each row of YtahgoingdfncbaaDoorRows.lean that lists a variable, with what it lists TIED to the program's text (the seventh form; the later family's looks); each row that meets fmt, with fmt's text TOLD by the authors' own Lean function (tested against real Go, not proved from fmt's source: count such statements apart). THE CARD IS WHAT COUNTS. Prove the row's statement (the work); the ties are given (YtahgoingdfncbaaDoorTie.lean); close each card by the builder's one call (the guide's Derived/Test/ToyasCard.lean, 'card_holds'). Laid BY PROGRAM, IN A SANDBOX (cutbox-door.mjs). By AI agents, Wed Nov 11 2026. No macro, syntax, notation, axiom, sorry.
-/
import Derived.Test.YtahgoingdfncbaaDoorRows
import GoSem.ClaimSeven
namespace Go.Proofs.YtahgoingdfncbaaDoor
namespace Rows

/-- THE TIED CARD OF 'laws.FnExactParseSteps'. -/
def fnExactParseStepsCard : Claim7 := { stood := { row := fnExactParseStepsRow, standIns := [], harness := (true, "6b1b3c0950b9e7e9a8254bfad1c3ab05e1ec088ccedfc510473c551d73d64251"), looks := true }, kinds := [], alts := [], laidByText := true, laidKinds := [.data, .data, .data, .data, .sentinel, .sentinel, .pinned], laidTests := true, laidLooks := .later }
def FnExactParseStepsCardSaid : Prop := Claim7.holds Tryd.pinned (.plain (OpenSpec.ofChange fnExactParseStepsSpec)) fnExactParseStepsCard

/-- THE SECOND FORM's CARD OF 'laws.FnExactParseSteps'. -/
def fnExactParseStepsUptoCard : Claim7 := { stood := { row := fnExactParseStepsUptoRow, standIns := [], harness := (true, "6b1b3c0950b9e7e9a8254bfad1c3ab05e1ec088ccedfc510473c551d73d64251"), looks := true }, kinds := [], alts := [], laidByText := true, laidKinds := [.data, .data, .data, .data, .sentinel, .sentinel, .pinned], laidTests := true, laidLooks := .later }
def FnExactParseStepsUptoCardSaid : Prop := Claim7.holds Tryd.pinned (.plain (OpenSpec.upto fnExactParseStepsSpec)) fnExactParseStepsUptoCard
end Rows
end Go.Proofs.YtahgoingdfncbaaDoor
