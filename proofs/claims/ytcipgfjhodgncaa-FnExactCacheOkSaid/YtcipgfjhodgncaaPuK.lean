/- The laws on caches. -/
import Derived.Test.YtcipgfjhodgncaaPuC
namespace Go.Proofs.Ytcipgfjhodgncaa.Vc
open Go Go.RowKit
set_option linter.unusedVariables false
set_option linter.unusedSimpArgs false
theorem lawFnExactCacheOk (c : Ca) (h : (Ty.pair (.int .i64) (.pair (.sl (.int .i64)) (.sl (.int .i64)))).wf c) : ∃ N, F4 N c = some true := by
  obtain ⟨h1, h2⟩ := wfCa h
  by_cases hs : (c.2.1.length : Int) + c.2.2.length ≤ 1048576
  · have b1 : c.2.1.length < 2000000 := by omega
    have b2 : c.2.2.length < 2000000 := by omega
    refine ⟨2000000, ?_⟩
    unfold F4
    rw [szCache_v (by omega) (by omega) (by omega) (by omega), andO_of, if_pos hs]
    simp only [show ¬ (1048576 : Int) - (c.2.1.length : Int) - (c.2.2.length : Int) < 0 by omega, decide_false, cond_false]
    rw [toCache_v b1 b2 (by omega) (by omega), andO_of, sCacheOk_v b1 (by omega), andO_of, andO_of, iCacheOk_v b1 (by omega), andO_of]
    simp only [beq_self_eq_true, Bool.not_true, cond_false, andO_of]
    rw [eqCache_v b1 b2 (by omega) (by omega), andO_of]
    simp
  · refine ⟨1, ?_⟩
    unfold F4
    rw [szCache_v (by omega) (by omega) (by omega) (by omega), andO_of, if_neg hs]
    rfl
end Go.Proofs.Ytcipgfjhodgncaa.Vc
