/-
  DERIVED. GIVEN WITH THE SEED: THE CARDS: each row of YtgpddckjpokclaaDoorRows.lean that lists a variable, with what it lists TIED to the program's text (the seventh form; the later family's looks); each row that meets fmt, with fmt's text TOLD by the authors' own Lean function (tested against real Go, not proved from fmt's source: count such statements apart). THE CARD IS WHAT COUNTS. Prove the row's statement (the work); the ties are given (YtgpddckjpokclaaDoorTie.lean); close each card by the builder's one call (the guide's Derived/Test/ToyasCard.lean, 'card_holds'). Laid BY PROGRAM, IN A SANDBOX (cutbox-door.mjs). By AI agents, Wed Nov 11 2026. No macro, syntax, notation, axiom, sorry.
-/
import Derived.Test.YtgpddckjpokclaaDoorRows
import GoSem.ClaimSeven
namespace Go.Proofs.YtgpddckjpokclaaDoor
namespace Rows

/-- THE TIED CARD OF 'laws.FnCaches'. -/
def fnCachesCard : Claim7 := { stood := { row := fnCachesRow, standIns := [], harness := (true, "9e1d102d53440a3ce86018ceccdff94e57dedebe9c75fa844df934a6f4018513"), looks := false }, kinds := [], alts := [], laidByText := true, laidKinds := [.data, .data, .data], laidTests := true, laidLooks := .later }
def FnCachesCardSaid : Prop := Claim7.holds Tryd.pinned (.plain (OpenSpec.ofChange fnCachesSpec)) fnCachesCard

/-- THE TIED CARD OF 'laws.FnExactStepText'. -/
def fnExactStepTextCard : Claim7 := { stood := { row := fnExactStepTextRow, standIns := [], harness := (true, "9e1d102d53440a3ce86018ceccdff94e57dedebe9c75fa844df934a6f4018513"), looks := false }, kinds := [], alts := [], laidByText := true, laidKinds := [.data, .data, .data], laidTests := true, laidLooks := .later }
def FnExactStepTextCardSaid : Prop := Claim7.holds Tryd.pinned (.plain (OpenSpec.ofChange fnExactStepTextSpec)) fnExactStepTextCard

/-- THE TIED CARD OF 'laws.FnExactStepsText'. -/
def fnExactStepsTextCard : Claim7 := { stood := { row := fnExactStepsTextRow, standIns := [], harness := (true, "9e1d102d53440a3ce86018ceccdff94e57dedebe9c75fa844df934a6f4018513"), looks := false }, kinds := [], alts := [], laidByText := true, laidKinds := [.data, .data, .data], laidTests := true, laidLooks := .later }
def FnExactStepsTextCardSaid : Prop := Claim7.holds Tryd.pinned (.plain (OpenSpec.ofChange fnExactStepsTextSpec)) fnExactStepsTextCard

/-- THE TIED CARD OF 'laws.FnExactCacheText'. -/
def fnExactCacheTextCard : Claim7 := { stood := { row := fnExactCacheTextRow, standIns := [], harness := (true, "9e1d102d53440a3ce86018ceccdff94e57dedebe9c75fa844df934a6f4018513"), looks := false }, kinds := [], alts := [], laidByText := true, laidKinds := [.data, .data, .data], laidTests := true, laidLooks := .later }
def FnExactCacheTextCardSaid : Prop := Claim7.holds Tryd.pinned (.plain (OpenSpec.ofChange fnExactCacheTextSpec)) fnExactCacheTextCard

/-- THE SECOND FORM's CARD OF 'laws.FnCaches'. -/
def fnCachesUptoCard : Claim7 := { stood := { row := fnCachesUptoRow, standIns := [], harness := (true, "9e1d102d53440a3ce86018ceccdff94e57dedebe9c75fa844df934a6f4018513"), looks := false }, kinds := [], alts := [], laidByText := true, laidKinds := [.data, .data, .data], laidTests := true, laidLooks := .later }
def FnCachesUptoCardSaid : Prop := Claim7.holds Tryd.pinned (.plain (OpenSpec.upto fnCachesSpec)) fnCachesUptoCard

/-- THE SECOND FORM's CARD OF 'laws.FnExactStepText'. -/
def fnExactStepTextUptoCard : Claim7 := { stood := { row := fnExactStepTextUptoRow, standIns := [], harness := (true, "9e1d102d53440a3ce86018ceccdff94e57dedebe9c75fa844df934a6f4018513"), looks := false }, kinds := [], alts := [], laidByText := true, laidKinds := [.data, .data, .data], laidTests := true, laidLooks := .later }
def FnExactStepTextUptoCardSaid : Prop := Claim7.holds Tryd.pinned (.plain (OpenSpec.upto fnExactStepTextSpec)) fnExactStepTextUptoCard

/-- THE SECOND FORM's CARD OF 'laws.FnExactStepsText'. -/
def fnExactStepsTextUptoCard : Claim7 := { stood := { row := fnExactStepsTextUptoRow, standIns := [], harness := (true, "9e1d102d53440a3ce86018ceccdff94e57dedebe9c75fa844df934a6f4018513"), looks := false }, kinds := [], alts := [], laidByText := true, laidKinds := [.data, .data, .data], laidTests := true, laidLooks := .later }
def FnExactStepsTextUptoCardSaid : Prop := Claim7.holds Tryd.pinned (.plain (OpenSpec.upto fnExactStepsTextSpec)) fnExactStepsTextUptoCard

/-- THE SECOND FORM's CARD OF 'laws.FnExactCacheText'. -/
def fnExactCacheTextUptoCard : Claim7 := { stood := { row := fnExactCacheTextUptoRow, standIns := [], harness := (true, "9e1d102d53440a3ce86018ceccdff94e57dedebe9c75fa844df934a6f4018513"), looks := false }, kinds := [], alts := [], laidByText := true, laidKinds := [.data, .data, .data], laidTests := true, laidLooks := .later }
def FnExactCacheTextUptoCardSaid : Prop := Claim7.holds Tryd.pinned (.plain (OpenSpec.upto fnExactCacheTextSpec)) fnExactCacheTextUptoCard
end Rows
end Go.Proofs.YtgpddckjpokclaaDoor
