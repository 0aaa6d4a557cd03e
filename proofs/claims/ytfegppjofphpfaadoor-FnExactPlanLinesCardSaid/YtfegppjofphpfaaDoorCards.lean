/-
  DERIVED. GIVEN WITH THE SEED: THE CARDS: each row of YtfegppjofphpfaaDoorRows.lean that lists a variable, with what it lists TIED to the program's text (the seventh form; the later family's looks); each row that meets fmt, with fmt's text TOLD by the authors' own Lean function (tested against real Go, not proved from fmt's source: count such statements apart). THE CARD IS WHAT COUNTS. Prove the row's statement (the work); the ties are given (YtfegppjofphpfaaDoorTie.lean); close each card by the builder's one call (the guide's Derived/Test/ToyasCard.lean, 'card_holds'). Laid BY PROGRAM, IN A SANDBOX (cutbox-door.mjs). By AI agents, Wed Nov 11 2026. No macro, syntax, notation, axiom, sorry.
-/
import Derived.Test.YtfegppjofphpfaaDoorRows
import GoSem.ClaimSeven
namespace Go.Proofs.YtfegppjofphpfaaDoor
namespace Rows

/-- THE TIED CARD OF 'laws.FnExactNodeText'. -/
def fnExactNodeTextCard : Claim7 := { stood := { row := fnExactNodeTextRow, standIns := [], harness := (true, "7c0d2e185ca3f5888f8d75e47db96108c75844b87123f8895aa3e4d1181669c9"), looks := true }, kinds := [], alts := [], laidByText := true, laidKinds := [.data, .data, .data], laidTests := true, laidLooks := .later }
def FnExactNodeTextCardSaid : Prop := Claim7.holds Tryd.pinned (.plain (OpenSpec.ofChange fnExactNodeTextSpec)) fnExactNodeTextCard

/-- THE TIED CARD OF 'laws.FnExactPrintPlan'. -/
def fnExactPrintPlanCard : Claim7 := { stood := { row := fnExactPrintPlanRow, standIns := [], harness := (true, "7c0d2e185ca3f5888f8d75e47db96108c75844b87123f8895aa3e4d1181669c9"), looks := true }, kinds := [], alts := [], laidByText := true, laidKinds := [.data, .data, .data], laidTests := true, laidLooks := .later }
def FnExactPrintPlanCardSaid : Prop := Claim7.holds Tryd.pinned (.plain (OpenSpec.ofChange fnExactPrintPlanSpec)) fnExactPrintPlanCard

/-- THE TIED CARD OF 'laws.FnExactPlanLines'. -/
def fnExactPlanLinesCard : Claim7 := { stood := { row := fnExactPlanLinesRow, standIns := [], harness := (true, "7c0d2e185ca3f5888f8d75e47db96108c75844b87123f8895aa3e4d1181669c9"), looks := true }, kinds := [], alts := [], laidByText := true, laidKinds := [.data, .data, .data], laidTests := true, laidLooks := .later }
def FnExactPlanLinesCardSaid : Prop := Claim7.holds Tryd.pinned (.plain (OpenSpec.ofChange fnExactPlanLinesSpec)) fnExactPlanLinesCard

/-- THE TIED CARD OF 'laws.FnExactParseSteps'. -/
def fnExactParseStepsCard : Claim7 := { stood := { row := fnExactParseStepsRow, standIns := [], harness := (true, "7c0d2e185ca3f5888f8d75e47db96108c75844b87123f8895aa3e4d1181669c9"), looks := true }, kinds := [], alts := [], laidByText := true, laidKinds := [.data, .data, .data, .data, .sentinel, .sentinel, .pinned], laidTests := true, laidLooks := .later }
def FnExactParseStepsCardSaid : Prop := Claim7.holds Tryd.pinned (.plain (OpenSpec.ofChange fnExactParseStepsSpec)) fnExactParseStepsCard

/-- THE SECOND FORM's CARD OF 'laws.FnExactNodeText'. -/
def fnExactNodeTextUptoCard : Claim7 := { stood := { row := fnExactNodeTextUptoRow, standIns := [], harness := (true, "7c0d2e185ca3f5888f8d75e47db96108c75844b87123f8895aa3e4d1181669c9"), looks := true }, kinds := [], alts := [], laidByText := true, laidKinds := [.data, .data, .data], laidTests := true, laidLooks := .later }
def FnExactNodeTextUptoCardSaid : Prop := Claim7.holds Tryd.pinned (.plain (OpenSpec.upto fnExactNodeTextSpec)) fnExactNodeTextUptoCard

/-- THE SECOND FORM's CARD OF 'laws.FnExactPrintPlan'. -/
def fnExactPrintPlanUptoCard : Claim7 := { stood := { row := fnExactPrintPlanUptoRow, standIns := [], harness := (true, "7c0d2e185ca3f5888f8d75e47db96108c75844b87123f8895aa3e4d1181669c9"), looks := true }, kinds := [], alts := [], laidByText := true, laidKinds := [.data, .data, .data], laidTests := true, laidLooks := .later }
def FnExactPrintPlanUptoCardSaid : Prop := Claim7.holds Tryd.pinned (.plain (OpenSpec.upto fnExactPrintPlanSpec)) fnExactPrintPlanUptoCard

/-- THE SECOND FORM's CARD OF 'laws.FnExactPlanLines'. -/
def fnExactPlanLinesUptoCard : Claim7 := { stood := { row := fnExactPlanLinesUptoRow, standIns := [], harness := (true, "7c0d2e185ca3f5888f8d75e47db96108c75844b87123f8895aa3e4d1181669c9"), looks := true }, kinds := [], alts := [], laidByText := true, laidKinds := [.data, .data, .data], laidTests := true, laidLooks := .later }
def FnExactPlanLinesUptoCardSaid : Prop := Claim7.holds Tryd.pinned (.plain (OpenSpec.upto fnExactPlanLinesSpec)) fnExactPlanLinesUptoCard

/-- THE SECOND FORM's CARD OF 'laws.FnExactParseSteps'. -/
def fnExactParseStepsUptoCard : Claim7 := { stood := { row := fnExactParseStepsUptoRow, standIns := [], harness := (true, "7c0d2e185ca3f5888f8d75e47db96108c75844b87123f8895aa3e4d1181669c9"), looks := true }, kinds := [], alts := [], laidByText := true, laidKinds := [.data, .data, .data, .data, .sentinel, .sentinel, .pinned], laidTests := true, laidLooks := .later }
def FnExactParseStepsUptoCardSaid : Prop := Claim7.holds Tryd.pinned (.plain (OpenSpec.upto fnExactParseStepsSpec)) fnExactParseStepsUptoCard
end Rows
end Go.Proofs.YtfegppjofphpfaaDoor
