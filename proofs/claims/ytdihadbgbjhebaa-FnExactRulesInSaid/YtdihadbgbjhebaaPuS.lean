/- Steps: what the laws' functions, the program's and the reference's give. -/
import Derived.Test.YtdihadbgbjhebaaPuC
namespace Go.Proofs.Ytdihadbgbjhebaa.Vc
open Go Go.RowKit
set_option linter.unusedVariables false
set_option linter.unusedSimpArgs false
abbrev Sp := Int × Int
theorem szStepS_v {N : Nat} {a : List Sp} {l : Int} (hl : 0 ≤ l) (hl2 : l ≤ 1048576) (hs : a.length ≤ 9223372036854775807) : F11 N a l = some (if (a.length : Int) ≤ l then l - a.length else -1) := by
  unfold F11
  rw [w64 (by omega) (by omega)]
  by_cases h : (a.length : Int) ≤ l
  · simp [h, show ¬ l - (a.length : Int) < 0 by omega]
  · simp [h, show l - (a.length : Int) < 0 by omega]
theorem toStepS_l (N : Nat) (a : List Sp) (hs : a.length < 4611686018427387904) : ∀ (d k i : Nat), i + d = a.length → d < k → F13_l0 N a k (a.take i ++ List.replicate (a.length - i) (0, 0)) (i : Int) = some a := by
  intro d
  induction d with
  | zero =>
    intro k i h hk
    have hi : i = a.length := by omega
    subst hi
    rw [F13_l0_s _ _ (by omega), F13_l0_b]
    simp [F13_j0]
  | succ d ih =>
    intro k i h hk
    have hi : i < a.length := by omega
    have hl : (a.take i ++ List.replicate (a.length - i) ((0 : Int), (0 : Int))).length = a.length := by simp; omega
    rw [F13_l0_s _ _ (by omega), F13_l0_b]
    have hto : ∀ x : Sp, F55 N x = some x := fun x => rfl
    simp only [hl, show (i : Int) < (a.length : Int) by omega, decide_true, cond_true, gd_true (inR hi), Int.toNat_natCast, gd_true hi, getD_at hi, hto, andO_of]
    rw [w64 (x := (i : Int) + 1) (by omega) (by omega), show ((i : Int) + 1) = ((i + 1 : Nat) : Int) by omega]
    have hset : (a.take i ++ List.replicate (a.length - i) ((0 : Int), (0 : Int))).set i a[i] = a.take (i + 1) ++ List.replicate (a.length - (i + 1)) (0, 0) := by
      rw [List.set_append_right _ _ (by simp; omega), show (a.length - i) = (a.length - (i + 1)) + 1 by omega, List.replicate_succ]
      have : i - (a.take i).length = 0 := by simp; omega
      rw [this, List.set_cons_zero, List.take_succ_eq_append_getElem hi, List.append_assoc, List.singleton_append]
    rw [hset]
    exact ih (k - 1) (i + 1) (by omega) (by omega)

theorem lim_sp : lim (.pair (.int .i64) (.int .i64)) = 2932031007402 := by decide

theorem toStepS_v {N : Nat} {a : List Sp} (hs : a.length < N) (hN : a.length ≤ 2932031007402) : F13 N a = some a := by
  unfold F13
  rw [gd_true ⟨by omega, by rw [lim_sp]; omega, rfl⟩]
  have := toStepS_l N a (by omega) a.length N 0 (by omega) hs
  simpa [Ty.dflt] using this
theorem eqStep_v (N : Nat) (a b : Sp) : F56 N a b = some (decide (a = b)) := by
  unfold F56
  obtain ⟨a1, a2⟩ := a
  obtain ⟨b1, b2⟩ := b
  by_cases h1 : a1 = b1
  · subst h1
    by_cases h2 : a2 = b2
    · simp [h2]
    · have : (a2 != b2) = true := by simpa using h2
      simp [this, h2]
  · have : (a1 != b1) = true := by simpa using h1
    simp [this, h1]
theorem eqStepS_l (N : Nat) (a b : List Sp) (hl : a.length = b.length) (hs : a.length < 4611686018427387904) : ∀ (d k i : Nat), i + d = a.length → d < k → F16_l0 N a b k (i : Int) = some (decide (a.drop i = b.drop i)) := by
  intro d
  induction d with
  | zero =>
    intro k i h hk
    rw [F16_l0_s _ _ _ (by omega), F16_l0_b]
    simp only [show ¬ (i : Int) < (a.length : Int) by omega, decide_false, cond_false, F16_j0]
    rw [List.drop_eq_nil_of_le (by omega), List.drop_eq_nil_of_le (by omega)]
    rfl
  | succ d ih =>
    intro k i h hk
    have hi : i < a.length := by omega
    have hi' : i < b.length := by omega
    rw [F16_l0_s _ _ _ (by omega), F16_l0_b]
    simp only [show (i : Int) < (a.length : Int) by omega, decide_true, cond_true, gd_true (inR hi), gd_true (inR hi'), Int.toNat_natCast, getD_at hi, getD_at hi', eqStep_v, andO_of]
    rw [w64 (by omega) (by omega), show ((i : Int) + 1) = ((i + 1 : Nat) : Int) by omega, ih (k - 1) (i + 1) (by omega) (by omega)]
    by_cases hx : a[i] = b[i]
    · simp only [hx, decide_true, Bool.not_true, cond_false, drop_eq_iff hi hi', true_and]
    · simp only [hx, decide_false, Bool.not_false, cond_true, drop_eq_iff hi hi', false_and]

theorem eqStepS_v {N : Nat} {a b : List Sp} (hs : a.length < N) (hN : a.length < 4611686018427387904) : F16 N a b = some (decide (a = b)) := by
  unfold F16
  rw [bne_len]
  by_cases hl : a.length = b.length
  · simp only [hl, ne_eq, not_true_eq_false, decide_false, cond_false]
    have := eqStepS_l N a b hl hN a.length N 0 (by omega) hs
    simpa using this
  · have : a ≠ b := fun e => hl (by rw [e])
    simp [hl, this]
theorem markStepS_l (N : Nat) (n : Nat) (hn : n < 1000000000) : ∀ (d k i : Nat) (u : List Sp) (m : Int), i + d = n → d < k → u.length = n → 0 ≤ m → m ≤ 2 * i + 1 → ∃ v, F17_l0 N k u m (i : Int) = some (v, m + 2 * d) := by
  intro d
  induction d with
  | zero =>
    intro k i u m h hk hu h0 h1
    rw [F17_l0_s _ (by omega), F17_l0_b]
    exact ⟨u, by simp [show ¬ (i : Int) < (u.length : Int) by omega, F17_j0]⟩
  | succ d ih =>
    intro k i u m h hk hu h0 h1
    have hi : i < u.length := by omega
    rw [F17_l0_s _ (by omega), F17_l0_b]
    simp only [List.length_set, show (i : Int) < (u.length : Int) by omega, decide_true, cond_true, gd_true (inR hi), Int.toNat_natCast, gd_true hi]
    rw [w64 (x := m + 1) (by omega) (by omega), w64 (x := m + 1 + 1) (by omega) (by omega), w64 (x := (i : Int) + 1) (by omega) (by omega), show ((i : Int) + 1) = ((i + 1 : Nat) : Int) by omega]
    obtain ⟨v, hv⟩ := ih (k - 1) (i + 1) ((u.set i (m, (u.getD i (Ty.dflt (.pair (.int .i64) (.int .i64)))).2)).set i (((u.set i (m, (u.getD i (Ty.dflt (.pair (.int .i64) (.int .i64)))).2)).getD i (Ty.dflt (.pair (.int .i64) (.int .i64)))).1, m + 1)) (m + 1 + 1) (by omega) (by omega) (by simp [hu]) (by omega) (by omega)
    refine ⟨v, hv.trans ?_⟩
    congr 2
    omega

theorem markStepS_v {N : Nat} {a : List Sp} (hs : a.length < N) (hN : a.length < 1000000000) : ∃ v, F17 N a 1 = some (v, 1 + 2 * (a.length : Int)) := by
  unfold F17
  have := markStepS_l N a.length hN a.length N 0 a 1 (by omega) hs rfl (by omega) (by omega)
  simpa using this
/-- How often each rule is named. -/
def ruleF : List Sp → List Int → List Int
  | [], u => u
  | x :: l, u => ruleF l (if 0 ≤ x.1 ∧ x.1 ≤ 11 then u.set x.1.toNat (u.getD x.1.toNat 0 + 1) else u)

theorem ruleF_length : ∀ (l : List Sp) (u : List Int), (ruleF l u).length = u.length
  | [], u => rfl
  | x :: l, u => by
    simp only [ruleF]
    rw [ruleF_length]
    split <;> simp
theorem sRules_l (N : Nat) (a : List Sp) (hs : a.length < 1000000000) : ∀ (d k i : Nat) (u : List Int), i + d = a.length → d < k → u.length = 12 → (∀ j, 0 ≤ u.getD j 0 ∧ u.getD j 0 ≤ i) → F12_l0 N a k u (i : Int) = some (ruleF (a.drop i) u) := by
  intro d
  induction d with
  | zero =>
    intro k i u h hk hu hb
    have hi : i = a.length := by omega
    subst hi
    rw [F12_l0_s _ _ (by omega), F12_l0_b]
    simp [F12_j0, ruleF]
  | succ d ih =>
    intro k i u h hk hu hb
    have hi : i < a.length := by omega
    rw [F12_l0_s _ _ (by omega), F12_l0_b, List.drop_eq_getElem_cons hi]
    simp only [show (i : Int) < (a.length : Int) by omega, decide_true, cond_true, gd_true (inR hi), Int.toNat_natCast, getD_at hi, l01In_v, andO_of, ruleF, F12_j1, Ty.dflt]
    rw [w64 (x := (i : Int) + 1) (by omega) (by omega), show ((i : Int) + 1) = ((i + 1 : Nat) : Int) by omega]
    by_cases hr : 0 ≤ a[i].1 ∧ a[i].1 ≤ 11
    · have g : InR a[i].1 u.length := ⟨hr.1, by omega⟩
      have g2 : a[i].1.toNat < u.length := by omega
      have hb1 := hb a[i].1.toNat
      simp only [hr, and_self, decide_true, cond_true, gd_true g, gd_true g2, if_true]
      rw [w64 (by omega) (by omega)]
      refine ih (k - 1) (i + 1) _ (by omega) (by omega) (by simp [hu]) (fun j => ?_)
      have hbj := hb j
      by_cases hj : j = a[i].1.toNat
      · subst hj
        simp only [List.getD_eq_getElem?_getD, List.getElem?_set_self g2, Option.getD_some] at hb1 ⊢
        omega
      · simp only [List.getD_eq_getElem?_getD, List.getElem?_set_ne (Ne.symm hj)] at hbj ⊢
        omega
    · simp only [hr, decide_false, cond_false, if_false]
      refine ih (k - 1) (i + 1) u (by omega) (by omega) hu (fun j => ?_)
      have hbj := hb j
      omega

theorem sRules_v {N : Nat} {a : List Sp} (hs : a.length < N) (hN : a.length < 1000000000) : F12 N a = some (ruleF a (List.replicate 12 0)) := by
  unfold F12
  have := sRules_l N a hN a.length N 0 (List.replicate 12 0) (by omega) hs (by simp) (fun j => by
    rw [List.getD_eq_getElem?_getD, List.getElem?_replicate]
    split <;> simp)
  simpa [Ty.dflt] using this
theorem iRules_l (N : Nat) (a : List Sp) (hs : a.length < 1000000000) : ∀ (d k i : Nat) (u : List Int), i + d = a.length → d < k → u.length = 12 → (∀ j, 0 ≤ u.getD j 0 ∧ u.getD j 0 ≤ i) → F14_l0 N a k u (a.length : Int) (i : Int) = some (ruleF (a.drop i) u) := by
  intro d
  induction d with
  | zero =>
    intro k i u h hk hu hb
    have hi : i = a.length := by omega
    subst hi
    rw [F14_l0_s _ _ (by omega), F14_l0_b]
    simp [F14_j0, ruleF]
  | succ d ih =>
    intro k i u h hk hu hb
    have hi : i < a.length := by omega
    rw [F14_l0_s _ _ (by omega), F14_l0_b, List.drop_eq_getElem_cons hi]
    simp only [show (i : Int) < (a.length : Int) by omega, decide_true, cond_true, gd_true (inR hi), Int.toNat_natCast, getD_at hi, in_v, andO_of, ruleF, F14_j1, Ty.dflt]
    rw [w64 (x := (i : Int) + 1) (by omega) (by omega), show ((i : Int) + 1) = ((i + 1 : Nat) : Int) by omega]
    by_cases hr : 0 ≤ a[i].1 ∧ a[i].1 ≤ 11
    · have g : InR a[i].1 u.length := ⟨hr.1, by omega⟩
      have g2 : a[i].1.toNat < u.length := by omega
      have hb1 := hb a[i].1.toNat
      simp only [hr, and_self, decide_true, cond_true, gd_true g, gd_true g2, if_true]
      rw [w64 (by omega) (by omega)]
      refine ih (k - 1) (i + 1) _ (by omega) (by omega) (by simp [hu]) (fun j => ?_)
      have hbj := hb j
      by_cases hj : j = a[i].1.toNat
      · subst hj
        simp only [List.getD_eq_getElem?_getD, List.getElem?_set_self g2, Option.getD_some] at hb1 ⊢
        omega
      · simp only [List.getD_eq_getElem?_getD, List.getElem?_set_ne (Ne.symm hj)] at hbj ⊢
        omega
    · simp only [hr, decide_false, cond_false, if_false]
      refine ih (k - 1) (i + 1) u (by omega) (by omega) hu (fun j => ?_)
      have hbj := hb j
      omega

theorem iRules_v {N : Nat} {a : List Sp} (hs : a.length < N) (hN : a.length < 1000000000) : F14 N a = some (ruleF a (List.replicate 12 0)) := by
  unfold F14
  have := iRules_l N a hN a.length N 0 (List.replicate 12 0) (by omega) hs (by simp) (fun j => by
    rw [List.getD_eq_getElem?_getD, List.getElem?_replicate]
    split <;> simp)
  simpa [Ty.dflt] using this
theorem lawFnExactRulesIn (a : List Sp) (h : (Ty.sl (.pair (.int .i64) (.int .i64))).wf a) : ∃ N, F4 N a = some true := by
  have h1 : a.length ≤ 9223372036854775807 := h.1
  by_cases hs : (a.length : Int) ≤ 1048576
  · refine ⟨3000000, ?_⟩
    have hl : (ruleF a (List.replicate 12 0)).length = 12 := by rw [ruleF_length]; simp
    obtain ⟨v, hv⟩ := markStepS_v (N := 3000000) (a := a) (by omega) (by omega)
    unfold F4
    have hd : F19 3000000 (upFrom 1 (ruleF a (List.replicate 12 0)).length) 1 = some (1 + ((ruleF a (List.replicate 12 0)).length : Int)) := heldIntS_v (by omega) (by omega) (by omega)
    rw [szStepS_v (by omega) (by omega) h1, andO_of, if_pos hs]
    simp only [dlt (show (0 : Int) ≤ 1048576 - (a.length : Int) by omega), cond_false, toStepS_v (N := 3000000) (a := a) (by omega) (by omega), andO_of, sRules_v (N := 3000000) (a := a) (by omega) (by omega), iRules_v (N := 3000000) (a := a) (by omega) (by omega),
      eqIntS_v (N := 3000000) (a := ruleF a (List.replicate 12 0)) (b := ruleF a (List.replicate 12 0)) (by omega) (by omega), decide_true, Bool.not_true, eqStepS_v (N := 3000000) (a := a) (b := a) (by omega) (by omega), hv, dlt (show 0 ≤ 1 + 2 * (a.length : Int) by omega),
      markIntS_v (N := 3000000) (a := ruleF a (List.replicate 12 0)) (m := 1) (by omega) (by omega) (by omega), hd, dlt (show 0 ≤ 1 + ((ruleF a (List.replicate 12 0)).length : Int) by omega), bne_self_eq_false]
  · refine ⟨1, ?_⟩
    unfold F4
    rw [szStepS_v (by omega) (by omega) h1, andO_of, if_neg hs]
    rfl
end Go.Proofs.Ytdihadbgbjhebaa.Vc
