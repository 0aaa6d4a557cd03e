/- Nodes that are written over: that it ends, and how far it counts; the law of literals. -/
import Derived.Test.YtgpddckjpokclaaPuP
namespace Go.Proofs.Ytgpddckjpokclaa.Vc
open Go Go.RowKit
set_option linter.unusedVariables false
set_option linter.unusedSimpArgs false
theorem strOne (n : Int) : (strOfNums [n]).size = 1 := by
  simp [strOfNums, ByteArray.size]
theorem markText_l (N : Nat) : ∀ (d k : Nat) (x : Int) (s : ByteArray), 0 ≤ x → x < 10 ^ d → d < k → s.size + d ≤ 1000 → ∃ r, F69_l0 N k x s = some r := by
  intro d
  induction d with
  | zero =>
    intro k x s h0 h1 hk hs
    have hx : x = 0 := by simp at h1; omega
    subst hx
    rw [F69_l0_s _ (by omega), F69_l0_b]
    simp only [show ¬ (0 : Int) > 0 by omega, decide_false, cond_false, F69_j0]
    rw [gd_true (by show 1 + s.size ≤ _; omega)]
    exact ⟨_, rfl⟩
  | succ d ih =>
    intro k x s h0 h1 hk hs
    rw [F69_l0_s _ (by omega), F69_l0_b]
    by_cases hx : x > 0
    · simp only [hx, decide_true, cond_true]
      have e1 : Int.tdiv x 10 = x / 10 := Int.tdiv_eq_ediv_of_nonneg h0
      have h10 : x / 10 < 10 ^ d := by
        rw [Int.pow_succ] at h1
        omega
      by_cases hw : x / 10 ≤ 9223372036854775807
      · rw [gd_true (by rw [strOne]; omega), e1, w64 (by omega) hw]
        exact ih (k - 1) _ _ (by omega) h10 (by omega) (by rw [ByteArray.size_append, strOne]; omega)
      · rw [gd_true (by rw [strOne]; omega), e1]
        have hb : 0 ≤ IntKind.i64.wrap (x / 10) ∨ IntKind.i64.wrap (x / 10) < 0 := by omega
        by_cases hp : 0 < IntKind.i64.wrap (x / 10)
        · have : IntKind.i64.wrap (x / 10) ≤ x / 10 := by rw [IntKind.wrap_i64] at hp ⊢; omega
          exact ih (k - 1) _ _ (by omega) (by omega) (by omega) (by rw [ByteArray.size_append, strOne]; omega)
        · rw [F69_l0_s _ (by omega), F69_l0_b]
          simp only [show ¬ IntKind.i64.wrap (x / 10) > 0 from hp, decide_false, cond_false, F69_j0]
          rw [gd_true (by rw [ByteArray.size_append, strOne]; show 1 + (1 + s.size) ≤ _; omega)]
          exact ⟨_, rfl⟩
    · simp only [hx, decide_false, cond_false, F69_j0]
      rw [gd_true (by show 1 + s.size ≤ _; omega)]
      exact ⟨_, rfl⟩

theorem markText_v {N : Nat} (hN : 50 < N) (x : Int) (hx : x < 4611686018427387904) : ∃ r, F69 N x = some r := by
  unfold F69
  by_cases h : x ≤ 0
  · rw [decide_eq_true h, cond_true]
    exact ⟨_, rfl⟩
  · rw [decide_eq_false h, cond_false]
    have e : (10 : Int) ^ 30 = 1000000000000000000000000000000 := by decide
    exact markText_l N 30 N x ByteArray.empty (by omega) (by rw [e]; omega) (by omega) (by show 0 + 30 ≤ 1000; omega)
theorem markNodeS_l (N n : Nat) (hn : n ≤ 1048576) (hN : 1048576 < N) : ∀ (d k i : Nat) (l : List Nd) (m : Int), l.length = n → i + d = n → d < k → 0 ≤ m → m ≤ 2000000 * i + 1 → (∀ x ∈ l, x.2.2.2.2.2.2.length ≤ 1048576) →
    ∃ v c, F33_l0 N k l m (i : Int) = some (v, c) ∧ 0 ≤ c := by
  intro d
  induction d with
  | zero =>
    intro k i l m hl h hk h0 h1 hc
    rw [F33_l0_s _ (by omega), F33_l0_b]
    simp only [show ¬ (i : Int) < (l.length : Int) by omega, decide_false, cond_false, F33_j0]
    exact ⟨_, _, rfl, h0⟩
  | succ d ih =>
    intro k i l m hl h hk h0 h1 hc
    have hi : i < l.length := by omega
    have hcl := hc _ (List.getElem_mem hi)
    rw [F33_l0_s _ (by omega), F33_l0_b]
    obtain ⟨tx, htx⟩ := markText_v (N := N) (by omega) (m + 1) (by omega)
    simp only [show (i : Int) < (l.length : Int) by omega, decide_true, cond_true, List.length_set, gd_true (inR hi), Int.toNat_natCast, gd_true hi, getD_at hi]
    rw [w64 (x := m + 1) (by omega) (by omega), htx, andO_of, w64 (x := m + 1 + 1) (by omega) (by omega), w64 (x := m + 1 + 1 + 1) (by omega) (by omega), w64 (x := m + 1 + 1 + 1 + 1) (by omega) (by omega), w64 (x := m + 1 + 1 + 1 + 1 + 1) (by omega) (by omega), w64 (x := m + 1 + 1 + 1 + 1 + 1 + 1) (by omega) (by omega)]
    have hi2 : ∀ y, i < (l.set i y).length := fun y => by rw [List.length_set]; exact hi
    try simp only [getD_at (hi2 _), List.getElem_set_self]
    rw [markIntS_v (show l[i].2.2.2.2.2.2.length < N by omega) (by omega) (by omega), andO_of, w64 (x := (i : Int) + 1) (by omega) (by omega), show ((i : Int) + 1) = ((i + 1 : Nat) : Int) by omega]
    try simp only [List.set_set]
    refine ih (k - 1) (i + 1) _ _ (by rw [List.length_set]; exact hl) (by omega) (by omega) (by omega) (by omega) (fun x hx => ?_)
    rcases List.mem_or_eq_of_mem_set hx with h2 | h2
    · exact hc x h2
    · rw [h2]
      simp only [upFrom_length]
      exact hcl

theorem markNodeS_v {N : Nat} {l : List Nd} (hf : Fits l) (hN : 1048576 < N) : ∃ v c, F33 N l 1 = some (v, c) ∧ 0 ≤ c := by
  unfold F33
  have hs := hf.1
  exact markNodeS_l N l.length hs hN l.length N 0 l 1 rfl (by omega) (by omega) (by omega) (by omega) (fun x hx => (hf.2 x hx).2)
/-- Whether a node has a literal. -/
def litBM (a : Nd) : Bool := cond (a.1 == 1) (cond (a.2.2.2.1 != 3) true (a.1 == 6)) (a.1 == 6)

def litsF (out : List Int) (x : Nd) : List Int := cond (litBM x && !x.2.2.2.2.2.1) (out ++ [x.2.2.2.2.1]) out

theorem litsF_len (out : List Int) (x : Nd) : (litsF out x).length ≤ out.length + 1 := by
  unfold litsF
  cases (litBM x && !x.2.2.2.2.2.1) <;> simp

theorem litsF_fold : ∀ (p : List Nd) (out : List Int), (p.foldl litsF out).length ≤ out.length + p.length
  | [], out => by simp
  | x :: p, out => by
    have h1 := litsF_fold p (litsF out x)
    have h2 := litsF_len out x
    simp only [List.foldl_cons, List.length_cons]
    omega
end Go.Proofs.Ytgpddckjpokclaa.Vc
