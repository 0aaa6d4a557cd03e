/- Steps: what the laws' functions, the program's and the reference's give. -/
import Derived.Test.YtgpddckjpokclaaDoorPuC
namespace Go.Proofs.YtgpddckjpokclaaDoor.Vc
open Go Go.RowKit
set_option linter.unusedVariables false
set_option linter.unusedSimpArgs false
abbrev Sp := Int × Int
theorem szStepS_v {N : Nat} {a : List Sp} {l : Int} (hl : 0 ≤ l) (hl2 : l ≤ 1048576) (hs : a.length ≤ 9223372036854775807) : F20 N a l = some (if (a.length : Int) ≤ l then l - a.length else -1) := by
  unfold F20
  rw [w64 (by omega) (by omega)]
  by_cases h : (a.length : Int) ≤ l
  · simp [h, show ¬ l - (a.length : Int) < 0 by omega]
  · simp [h, show l - (a.length : Int) < 0 by omega]
theorem toStepS_l (N : Nat) (a : List Sp) (hs : a.length < 4611686018427387904) : ∀ (d k i : Nat), i + d = a.length → d < k → F22_l0 N a k (a.take i ++ List.replicate (a.length - i) (0, 0)) (i : Int) = some a := by
  intro d
  induction d with
  | zero =>
    intro k i h hk
    have hi : i = a.length := by omega
    subst hi
    rw [F22_l0_s _ _ (by omega), F22_l0_b]
    simp [F22_j0]
  | succ d ih =>
    intro k i h hk
    have hi : i < a.length := by omega
    have hl : (a.take i ++ List.replicate (a.length - i) ((0 : Int), (0 : Int))).length = a.length := by simp; omega
    rw [F22_l0_s _ _ (by omega), F22_l0_b]
    have hto : ∀ x : Sp, F18 N x = some x := fun x => rfl
    simp only [hl, show (i : Int) < (a.length : Int) by omega, decide_true, cond_true, gd_true (inR hi), Int.toNat_natCast, gd_true hi, getD_at hi, hto, andO_of]
    rw [w64 (x := (i : Int) + 1) (by omega) (by omega), show ((i : Int) + 1) = ((i + 1 : Nat) : Int) by omega]
    have hset : (a.take i ++ List.replicate (a.length - i) ((0 : Int), (0 : Int))).set i a[i] = a.take (i + 1) ++ List.replicate (a.length - (i + 1)) (0, 0) := by
      rw [List.set_append_right _ _ (by simp; omega), show (a.length - i) = (a.length - (i + 1)) + 1 by omega, List.replicate_succ]
      have : i - (a.take i).length = 0 := by simp; omega
      rw [this, List.set_cons_zero, List.take_succ_eq_append_getElem hi, List.append_assoc, List.singleton_append]
    rw [hset]
    exact ih (k - 1) (i + 1) (by omega) (by omega)

theorem lim_sp : lim (.pair (.int .i64) (.int .i64)) = 2932031007402 := by decide

theorem toStepS_v {N : Nat} {a : List Sp} (hs : a.length < N) (hN : a.length ≤ 2932031007402) : F22 N a = some a := by
  unfold F22
  rw [gd_true ⟨by omega, by rw [lim_sp]; omega, rfl⟩]
  have := toStepS_l N a (by omega) a.length N 0 (by omega) hs
  simpa [Ty.dflt] using this
theorem eqStep_v (N : Nat) (a b : Sp) : F49 N a b = some (decide (a = b)) := by
  unfold F49
  obtain ⟨a1, a2⟩ := a
  obtain ⟨b1, b2⟩ := b
  by_cases h1 : a1 = b1
  · subst h1
    by_cases h2 : a2 = b2
    · simp [h2]
    · have : (a2 != b2) = true := by simpa using h2
      simp [this, h2]
  · have : (a1 != b1) = true := by simpa using h1
    simp [this, h1]
theorem eqStepS_l (N : Nat) (a b : List Sp) (hl : a.length = b.length) (hs : a.length < 4611686018427387904) : ∀ (d k i : Nat), i + d = a.length → d < k → F24_l0 N a b k (i : Int) = some (decide (a.drop i = b.drop i)) := by
  intro d
  induction d with
  | zero =>
    intro k i h hk
    rw [F24_l0_s _ _ _ (by omega), F24_l0_b]
    simp only [show ¬ (i : Int) < (a.length : Int) by omega, decide_false, cond_false, F24_j0]
    rw [List.drop_eq_nil_of_le (by omega), List.drop_eq_nil_of_le (by omega)]
    rfl
  | succ d ih =>
    intro k i h hk
    have hi : i < a.length := by omega
    have hi' : i < b.length := by omega
    rw [F24_l0_s _ _ _ (by omega), F24_l0_b]
    simp only [show (i : Int) < (a.length : Int) by omega, decide_true, cond_true, gd_true (inR hi), gd_true (inR hi'), Int.toNat_natCast, getD_at hi, getD_at hi', eqStep_v, andO_of]
    rw [w64 (by omega) (by omega), show ((i : Int) + 1) = ((i + 1 : Nat) : Int) by omega, ih (k - 1) (i + 1) (by omega) (by omega)]
    by_cases hx : a[i] = b[i]
    · simp only [hx, decide_true, Bool.not_true, cond_false, drop_eq_iff hi hi', true_and]
    · simp only [hx, decide_false, Bool.not_false, cond_true, drop_eq_iff hi hi', false_and]

theorem eqStepS_v {N : Nat} {a b : List Sp} (hs : a.length < N) (hN : a.length < 4611686018427387904) : F24 N a b = some (decide (a = b)) := by
  unfold F24
  rw [bne_len]
  by_cases hl : a.length = b.length
  · simp only [hl, ne_eq, not_true_eq_false, decide_false, cond_false]
    have := eqStepS_l N a b hl hN a.length N 0 (by omega) hs
    simpa using this
  · have : a ≠ b := fun e => hl (by rw [e])
    simp [hl, this]
/-- How often each rule is named. -/
def ruleF : List Sp → List Int → List Int
  | [], u => u
  | x :: l, u => ruleF l (if 0 ≤ x.1 ∧ x.1 ≤ 11 then u.set x.1.toNat (u.getD x.1.toNat 0 + 1) else u)

theorem ruleF_length : ∀ (l : List Sp) (u : List Int), (ruleF l u).length = u.length
  | [], u => rfl
  | x :: l, u => by
    simp only [ruleF]
    rw [ruleF_length]
    split <;> simp
end Go.Proofs.YtgpddckjpokclaaDoor.Vc
