/- Steps: what the laws' functions, the program's and the reference's give. -/
import Derived.Test.YtgpddckjpokclaaDoorPuC
namespace Go.Proofs.YtgpddckjpokclaaDoor.Vc
open Go Go.RowKit
set_option linter.unusedVariables false
set_option linter.unusedSimpArgs false
abbrev Sp := Int × Int
/-- How often each rule is named. -/
def ruleF : List Sp → List Int → List Int
  | [], u => u
  | x :: l, u => ruleF l (if 0 ≤ x.1 ∧ x.1 ≤ 11 then u.set x.1.toNat (u.getD x.1.toNat 0 + 1) else u)

theorem ruleF_length : ∀ (l : List Sp) (u : List Int), (ruleF l u).length = u.length
  | [], u => rfl
  | x :: l, u => by
    simp only [ruleF]
    rw [ruleF_length]
    split <;> simp
end Go.Proofs.YtgpddckjpokclaaDoor.Vc
