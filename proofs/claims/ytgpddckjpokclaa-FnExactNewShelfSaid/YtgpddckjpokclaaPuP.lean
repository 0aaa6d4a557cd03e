/- Plans, their sizes and copies; the laws of slots. -/
import Derived.Test.YtgpddckjpokclaaPuN
namespace Go.Proofs.Ytgpddckjpokclaa.Vc
open Go Go.RowKit
set_option linter.unusedVariables false
set_option linter.unusedSimpArgs false

abbrev ndT : Ty := .pair (.int .i64) (.pair .str (.pair (.int .i64) (.pair (.int .i64) (.pair (.int .i64) (.pair .bool (.sl (.int .i64)))))))

/-- Nodes of bounded size. -/
def Fits (p : List Nd) : Prop := p.length ≤ 1048576 ∧ ∀ x ∈ p, x.2.1.size ≤ 1048576 ∧ x.2.2.2.2.2.2.length ≤ 1048576

/-- Nodes that have a length at all. -/
def Len (p : List Nd) : Prop := p.length ≤ 9223372036854775807 ∧ ∀ x ∈ p, x.2.1.size ≤ 9223372036854775807 ∧ x.2.2.2.2.2.2.length ≤ 9223372036854775807

theorem len_of {p : List Nd} (h : (Ty.sl ndT).wf p) : Len p := by
  refine ⟨h.1, fun x hx => ?_⟩
  have h1 := h.2 x hx
  exact ⟨h1.2.1, h1.2.2.2.2.2.2.1⟩
theorem eqNode_r {N : Nat} {a : Nd} (h1 : a.2.2.2.2.2.2.length ≤ 1048576) (hN : 1048576 < N) : F85 N a a = some true := by
  unfold F85
  simp only [bne_self_eq_false, cond_false, beq_self_eq_true, Bool.not_true]
  rw [eqIntS_v (by omega) (by omega), andO_of]
  simp
theorem eqNodeS_l (N : Nat) (a : List Nd) (hf : Fits a) (hN : 1048576 < N) : ∀ (d k i : Nat), i + d = a.length → d < k → F29_l0 N a a k (i : Int) = some true := by
  intro d
  have hs := hf.1
  induction d with
  | zero =>
    intro k i h hk
    rw [F29_l0_s _ _ _ (by omega), F29_l0_b]
    simp only [show ¬ (i : Int) < (a.length : Int) by omega, decide_false, cond_false, F29_j0]
  | succ d ih =>
    intro k i h hk
    have hi : i < a.length := by omega
    rw [F29_l0_s _ _ _ (by omega), F29_l0_b]
    simp only [show (i : Int) < (a.length : Int) by omega, decide_true, cond_true, gd_true (inR hi), Int.toNat_natCast, getD_at hi, eqNode_r (hf.2 _ (List.getElem_mem hi)).2 hN, andO_of, Bool.not_true, cond_false]
    rw [w64 (by omega) (by omega), show ((i : Int) + 1) = ((i + 1 : Nat) : Int) by omega]
    exact ih (k - 1) (i + 1) (by omega) (by omega)

theorem eqNodeS_r {N : Nat} {a : List Nd} (hf : Fits a) (hN : 1048576 < N) : F29 N a a = some true := by
  unfold F29
  have hs := hf.1
  simp only [bne_self_eq_false, cond_false]
  exact eqNodeS_l N a hf hN a.length N 0 (by omega) (by omega)
end Go.Proofs.Ytgpddckjpokclaa.Vc
