/-
  DERIVED. GIVEN WITH THE SEED: THE CARDS: each row of YtpdoaknenmgcoaaGreatDoorRows.lean that lists a variable, with what it lists TIED to the program's text (the seventh form; the later family's looks); each row that meets fmt, with fmt's text TOLD by the authors' own Lean function (tested against real Go, not proved from fmt's source: count such statements apart). THE CARD IS WHAT COUNTS. Prove the row's statement (the work); the ties are given (YtpdoaknenmgcoaaGreatDoorTie.lean); close each card by the builder's one call (the guide's Derived/Test/ToyasCard.lean, 'card_holds'). Laid BY PROGRAM, IN A SANDBOX (cutbox-door.mjs). By AI agents, Wed Nov 11 2026. No macro, syntax, notation, axiom, sorry.
-/
import Derived.Test.YtpdoaknenmgcoaaGreatDoorRows
import GoSem.ClaimSeven
namespace Go.Proofs.YtpdoaknenmgcoaaGreatDoor
namespace Rows

/-- THE TIED CARD OF 'laws.FnExactShelfText'. -/
def fnExactShelfTextCard : Claim7 := { stood := { row := fnExactShelfTextRow, standIns := [], harness := (true, "5e3982b964222a9f3a029903ee8d9db4f12af12d97f515fc2a393743bfddd6a9"), looks := false }, kinds := [], alts := [], laidByText := true, laidKinds := [.data, .data, .data], laidTests := true, laidLooks := .later }
def FnExactShelfTextCardSaid : Prop := Claim7.holds Tryz.pinned (.plain (OpenSpec.ofChange fnExactShelfTextSpec)) fnExactShelfTextCard

/-- THE SECOND FORM's CARD OF 'laws.FnExactShelfText'. -/
def fnExactShelfTextUptoCard : Claim7 := { stood := { row := fnExactShelfTextUptoRow, standIns := [], harness := (true, "5e3982b964222a9f3a029903ee8d9db4f12af12d97f515fc2a393743bfddd6a9"), looks := false }, kinds := [], alts := [], laidByText := true, laidKinds := [.data, .data, .data], laidTests := true, laidLooks := .later }
def FnExactShelfTextUptoCardSaid : Prop := Claim7.holds Tryz.pinned (.plain (OpenSpec.upto fnExactShelfTextSpec)) fnExactShelfTextUptoCard
end Rows
end Go.Proofs.YtpdoaknenmgcoaaGreatDoor
