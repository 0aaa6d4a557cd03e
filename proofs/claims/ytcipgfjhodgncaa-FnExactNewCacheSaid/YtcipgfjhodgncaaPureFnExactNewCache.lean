/- The program's NewCache and the reference's NewCache give the same cache and the same flag for every size, anew at every call and with no memory in common. No condition. -/
import Derived.Test.YtcipgfjhodgncaaPFnExactNewCachex2
namespace Go.Proofs.Ytcipgfjhodgncaa.Pure
open Go.RowKit Go.Proofs.Ytcipgfjhodgncaa.PFnExactNewCache Go.Proofs.YtcipgfjhodgncaaW.PrintWords Go.Proofs.YtcipgfjhodgncaaW.PrintLast

theorem FnExactNewCache : laws_FnExactNewCache.Pure := by
  intro a0 _
  refine ⟨3, ?_⟩
  by_cases h0 : 1 ≤ a0 <;> by_cases h1 : a0 ≤ 16 <;>
    simp [laws_FnExactNewCache.f, spec_NewCache.f, impl_NewCache.f, impl_isCap.f, spec_l01In.f, impl_in.f, laws_eqCache.f, laws_eqIntS.f, laws_eqIntS.l0, laws_FnExactNewCache.j0, laws_FnExactNewCache.j1,
      laws_markCache.f, laws_markIntS.f, laws_markIntS.l0, laws_heldCache.f, laws_heldIntS.f, laws_heldIntS.l0, h0, h1]

end Go.Proofs.Ytcipgfjhodgncaa.Pure
