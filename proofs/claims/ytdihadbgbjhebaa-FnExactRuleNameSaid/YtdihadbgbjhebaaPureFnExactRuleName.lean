/- The program's RuleName and the reference's RuleName give the same text for every number: both look it up in one list of twelve names, and give an empty text outside 0 .. 11. No condition. -/
import Derived.Test.YtdihadbgbjhebaaPFnExactRuleNamex1
namespace Go.Proofs.Ytdihadbgbjhebaa.Pure
open Go.RowKit Go.Proofs.Ytdihadbgbjhebaa.PFnExactRuleName Go.Proofs.YtdihadbgbjhebaaW.PrintWords Go.Proofs.YtdihadbgbjhebaaW.PrintLast

theorem FnExactRuleName : laws_FnExactRuleName.Pure := by
  intro a0 _
  unfold laws_FnExactRuleName.f spec_RuleName.f impl_RuleName.f spec_l01In.f impl_in.f
  by_cases h0 : 0 ≤ a0
  · by_cases h1 : a0 ≤ 11
    · have h2 : a0 < 12 := by omega
      simp [h0, h1, h2]
    · simp [h0, h1]
  · simp [h0]

end Go.Proofs.Ytdihadbgbjhebaa.Pure
