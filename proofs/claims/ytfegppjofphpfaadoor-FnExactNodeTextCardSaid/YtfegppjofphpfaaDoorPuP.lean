/- Plans, their sizes and copies; the laws of slots. -/
import Derived.Test.YtfegppjofphpfaaDoorPuN
namespace Go.Proofs.YtfegppjofphpfaaDoor.Vc
open Go Go.RowKit
set_option linter.unusedVariables false
set_option linter.unusedSimpArgs false

abbrev ndT : Ty := .pair (.int .i64) (.pair .str (.pair (.int .i64) (.pair (.int .i64) (.pair (.int .i64) (.pair .bool (.sl (.int .i64)))))))

/-- Nodes of bounded size. -/
def Fits (p : List Nd) : Prop := p.length ≤ 1048576 ∧ ∀ x ∈ p, x.2.1.size ≤ 1048576 ∧ x.2.2.2.2.2.2.length ≤ 1048576

/-- Nodes that have a length at all. -/
def Len (p : List Nd) : Prop := p.length ≤ 9223372036854775807 ∧ ∀ x ∈ p, x.2.1.size ≤ 9223372036854775807 ∧ x.2.2.2.2.2.2.length ≤ 9223372036854775807

theorem len_of {p : List Nd} (h : (Ty.sl ndT).wf p) : Len p := by
  refine ⟨h.1, fun x hx => ?_⟩
  have h1 := h.2 x hx
  exact ⟨h1.2.1, h1.2.2.2.2.2.2.1⟩
theorem szNode_v {N : Nat} {a : Nd} {l : Int} (hl : 0 ≤ l) (hl2 : l ≤ 1048576) (h1 : a.2.1.size ≤ 9223372036854775807) (h2 : a.2.2.2.2.2.2.length ≤ 9223372036854775807) :
    ∃ r : Int, F7 N a l = some r ∧ r ≤ l ∧ (r < 0 → r = -1) ∧ (0 ≤ r → a.2.1.size ≤ 1048576 ∧ a.2.2.2.2.2.2.length ≤ 1048576) := by
  unfold F7
  rw [w64 (by omega) (by omega)]
  by_cases hb : l - (a.2.1.size : Int) < 0
  · exact ⟨-1, by simp [hb], by omega, fun _ => rfl, fun h => absurd h (by omega)⟩
  · rw [szIntS_v (by omega) (by omega) h2, andO_of]
    by_cases hc : (a.2.2.2.2.2.2.length : Int) ≤ l - (a.2.1.size : Int)
    · refine ⟨l - (a.2.1.size : Int) - a.2.2.2.2.2.2.length, ?_, by omega, by omega, fun _ => by omega⟩
      simp only [hb, hc, decide_false, cond_false, if_true, show ¬ l - (a.2.1.size : Int) - a.2.2.2.2.2.2.length < 0 by omega]
    · exact ⟨-1, by simp [hb, hc], by omega, fun _ => rfl, fun h => absurd h (by omega)⟩
theorem toNode_v {N : Nat} {a : Nd} (h1 : a.2.2.2.2.2.2.length ≤ 1048576) (hN : 1048576 < N) : F9 N a = some a := by
  unfold F9
  rw [toIntS_v (by omega) (by omega), andO_of]
theorem eqNode_r {N : Nat} {a : Nd} (h1 : a.2.2.2.2.2.2.length ≤ 1048576) (hN : 1048576 < N) : F11 N a a = some true := by
  unfold F11
  simp only [bne_self_eq_false, cond_false, beq_self_eq_true, Bool.not_true]
  rw [eqIntS_v (by omega) (by omega), andO_of]
  simp
end Go.Proofs.YtfegppjofphpfaaDoor.Vc
