/- Nodes that are written over: that it ends, and how far it counts; the law of literals. -/
import Derived.Test.YtdihadbgbjhebaaPuP
namespace Go.Proofs.Ytdihadbgbjhebaa.Vc
open Go Go.RowKit
set_option linter.unusedVariables false
set_option linter.unusedSimpArgs false
theorem strOne (n : Int) : (strOfNums [n]).size = 1 := by
  simp [strOfNums, ByteArray.size]
theorem markText_l (N : Nat) : ∀ (d k : Nat) (x : Int) (s : ByteArray), 0 ≤ x → x < 10 ^ d → d < k → s.size + d ≤ 1000 → ∃ r, F59_l0 N k x s = some r := by
  intro d
  induction d with
  | zero =>
    intro k x s h0 h1 hk hs
    have hx : x = 0 := by simp at h1; omega
    subst hx
    rw [F59_l0_s _ (by omega), F59_l0_b]
    simp only [show ¬ (0 : Int) > 0 by omega, decide_false, cond_false, F59_j0]
    rw [gd_true (by show 1 + s.size ≤ _; omega)]
    exact ⟨_, rfl⟩
  | succ d ih =>
    intro k x s h0 h1 hk hs
    rw [F59_l0_s _ (by omega), F59_l0_b]
    by_cases hx : x > 0
    · simp only [hx, decide_true, cond_true]
      have e1 : Int.tdiv x 10 = x / 10 := Int.tdiv_eq_ediv_of_nonneg h0
      have h10 : x / 10 < 10 ^ d := by
        rw [Int.pow_succ] at h1
        omega
      by_cases hw : x / 10 ≤ 9223372036854775807
      · rw [gd_true (by rw [strOne]; omega), e1, w64 (by omega) hw]
        exact ih (k - 1) _ _ (by omega) h10 (by omega) (by rw [ByteArray.size_append, strOne]; omega)
      · rw [gd_true (by rw [strOne]; omega), e1]
        have hb : 0 ≤ IntKind.i64.wrap (x / 10) ∨ IntKind.i64.wrap (x / 10) < 0 := by omega
        by_cases hp : 0 < IntKind.i64.wrap (x / 10)
        · have : IntKind.i64.wrap (x / 10) ≤ x / 10 := by rw [IntKind.wrap_i64] at hp ⊢; omega
          exact ih (k - 1) _ _ (by omega) (by omega) (by omega) (by rw [ByteArray.size_append, strOne]; omega)
        · rw [F59_l0_s _ (by omega), F59_l0_b]
          simp only [show ¬ IntKind.i64.wrap (x / 10) > 0 from hp, decide_false, cond_false, F59_j0]
          rw [gd_true (by rw [ByteArray.size_append, strOne]; show 1 + (1 + s.size) ≤ _; omega)]
          exact ⟨_, rfl⟩
    · simp only [hx, decide_false, cond_false, F59_j0]
      rw [gd_true (by show 1 + s.size ≤ _; omega)]
      exact ⟨_, rfl⟩

theorem markText_v {N : Nat} (hN : 50 < N) (x : Int) (hx : x < 4611686018427387904) : ∃ r, F59 N x = some r := by
  unfold F59
  by_cases h : x ≤ 0
  · rw [decide_eq_true h, cond_true]
    exact ⟨_, rfl⟩
  · rw [decide_eq_false h, cond_false]
    have e : (10 : Int) ^ 30 = 1000000000000000000000000000000 := by decide
    exact markText_l N 30 N x ByteArray.empty (by omega) (by rw [e]; omega) (by omega) (by show 0 + 30 ≤ 1000; omega)
theorem markNodeS_l (N n : Nat) (hn : n ≤ 1048576) (hN : 1048576 < N) : ∀ (d k i : Nat) (l : List Nd) (m : Int), l.length = n → i + d = n → d < k → 0 ≤ m → m ≤ 2000000 * i + 1 → (∀ x ∈ l, x.2.2.2.2.2.2.length ≤ 1048576) →
    ∃ v c, F43_l0 N k l m (i : Int) = some (v, c) ∧ 0 ≤ c := by
  intro d
  induction d with
  | zero =>
    intro k i l m hl h hk h0 h1 hc
    rw [F43_l0_s _ (by omega), F43_l0_b]
    simp only [show ¬ (i : Int) < (l.length : Int) by omega, decide_false, cond_false, F43_j0]
    exact ⟨_, _, rfl, h0⟩
  | succ d ih =>
    intro k i l m hl h hk h0 h1 hc
    have hi : i < l.length := by omega
    have hcl := hc _ (List.getElem_mem hi)
    rw [F43_l0_s _ (by omega), F43_l0_b]
    obtain ⟨tx, htx⟩ := markText_v (N := N) (by omega) (m + 1) (by omega)
    simp only [show (i : Int) < (l.length : Int) by omega, decide_true, cond_true, List.length_set, gd_true (inR hi), Int.toNat_natCast, gd_true hi, getD_at hi]
    rw [w64 (x := m + 1) (by omega) (by omega), htx, andO_of, w64 (x := m + 1 + 1) (by omega) (by omega), w64 (x := m + 1 + 1 + 1) (by omega) (by omega), w64 (x := m + 1 + 1 + 1 + 1) (by omega) (by omega), w64 (x := m + 1 + 1 + 1 + 1 + 1) (by omega) (by omega), w64 (x := m + 1 + 1 + 1 + 1 + 1 + 1) (by omega) (by omega)]
    have hi2 : ∀ y, i < (l.set i y).length := fun y => by rw [List.length_set]; exact hi
    simp only [getD_at (hi2 _), List.getElem_set_self]
    rw [markIntS_v (show l[i].2.2.2.2.2.2.length < N by omega) (by omega) (by omega), andO_of, w64 (x := (i : Int) + 1) (by omega) (by omega), show ((i : Int) + 1) = ((i + 1 : Nat) : Int) by omega]
    simp only [List.set_set]
    refine ih (k - 1) (i + 1) _ _ (by rw [List.length_set]; exact hl) (by omega) (by omega) (by omega) (by omega) (fun x hx => ?_)
    rcases List.mem_or_eq_of_mem_set hx with h2 | h2
    · exact hc x h2
    · rw [h2]
      simp only [upFrom_length]
      exact hcl

theorem markNodeS_v {N : Nat} {l : List Nd} (hf : Fits l) (hN : 1048576 < N) : ∃ v c, F43 N l 1 = some (v, c) ∧ 0 ≤ c := by
  unfold F43
  have hs := hf.1
  exact markNodeS_l N l.length hs hN l.length N 0 l 1 rfl (by omega) (by omega) (by omega) (by omega) (fun x hx => (hf.2 x hx).2)
/-- Whether a node has a literal. -/
def litBM (a : Nd) : Bool := cond (a.1 == 1) (cond (a.2.2.2.1 != 3) true (a.1 == 6)) (a.1 == 6)

def litsF (out : List Int) (x : Nd) : List Int := cond (litBM x && !x.2.2.2.2.2.1) (out ++ [x.2.2.2.2.1]) out

theorem litsF_len (out : List Int) (x : Nd) : (litsF out x).length ≤ out.length + 1 := by
  unfold litsF
  cases (litBM x && !x.2.2.2.2.2.1) <;> simp

theorem litsF_fold : ∀ (p : List Nd) (out : List Int), (p.foldl litsF out).length ≤ out.length + p.length
  | [], out => by simp
  | x :: p, out => by
    have h1 := litsF_fold p (litsF out x)
    have h2 := litsF_len out x
    simp only [List.foldl_cons, List.length_cons]
    omega
theorem isLitM_v (N : Nat) (a : Nd) : F86 N a = some (litBM a) := by
  unfold F86 litBM
  cases (a.1 == 1) <;> cases (a.2.2.2.1 != 3) <;> rfl
theorem l07LitM_v (N : Nat) (a : Nd) : F84 N a = some (litBM a) := by
  unfold F84 litBM
  cases (a.1 == 1) <;> cases (a.2.2.2.1 != 3) <;> rfl
theorem iLits_l (N : Nat) (p : List Nd) (hs : p.length ≤ 1048576) : ∀ (d k i : Nat) (out : List Int), i + d = p.length → d < k → out.length + d ≤ 3000000 → F41_l0 N p k out (p.length : Int) (i : Int) = some ((p.drop i).foldl litsF out) := by
  intro d
  have hlim := lim_i64
  induction d with
  | zero =>
    intro k i out h hk ho
    rw [F41_l0_s _ _ (by omega), F41_l0_b]
    simp only [show ¬ (i : Int) < (p.length : Int) by omega, decide_false, cond_false, F41_j0]
    rw [List.drop_eq_nil_of_le (by omega)]
    rfl
  | succ d ih =>
    intro k i out h hk ho
    have hi : i < p.length := by omega
    rw [F41_l0_s _ _ (by omega), F41_l0_b]
    simp only [show (i : Int) < (p.length : Int) by omega, decide_true, cond_true, gd_true (inR hi), Int.toNat_natCast, getD_at hi, isLitM_v, andO_of, F41_j1]
    rw [gd_true (show out.length + [p[i].2.2.2.2.1].length ≤ lim (.int .i64) by simp; omega), w64 (by omega) (by omega), show ((i : Int) + 1) = ((i + 1 : Nat) : Int) by omega, ih (k - 1) (i + 1) out (by omega) (by omega) (by omega), ih (k - 1) (i + 1) (out ++ [p[i].2.2.2.2.1]) (by omega) (by omega) (by simp; omega)]
    rw [List.drop_eq_getElem_cons hi, List.foldl_cons]
    have hst : litsF out p[i] = cond (litBM p[i] && !p[i].2.2.2.2.2.1) (out ++ [p[i].2.2.2.2.1]) out := rfl
    rw [hst]
    cases litBM p[i] <;> cases p[i].2.2.2.2.2.1 <;> rfl
theorem sLits_l (N : Nat) (p : List Nd) (hs : p.length ≤ 1048576) : ∀ (d k i : Nat) (out : List Int), i + d = p.length → d < k → out.length + d ≤ 3000000 → F39_l0 N p k out (i : Int) = some ((p.drop i).foldl litsF out) := by
  intro d
  have hlim := lim_i64
  induction d with
  | zero =>
    intro k i out h hk ho
    rw [F39_l0_s _ _ (by omega), F39_l0_b]
    simp only [show ¬ (i : Int) < (p.length : Int) by omega, decide_false, cond_false, F39_j0]
    rw [List.drop_eq_nil_of_le (by omega)]
    rfl
  | succ d ih =>
    intro k i out h hk ho
    have hi : i < p.length := by omega
    rw [F39_l0_s _ _ (by omega), F39_l0_b]
    simp only [show (i : Int) < (p.length : Int) by omega, decide_true, cond_true, gd_true (inR hi), Int.toNat_natCast, getD_at hi, l07LitM_v, andO_of, F39_j1]
    rw [gd_true (show out.length + [p[i].2.2.2.2.1].length ≤ lim (.int .i64) by simp; omega), w64 (by omega) (by omega), show ((i : Int) + 1) = ((i + 1 : Nat) : Int) by omega, ih (k - 1) (i + 1) out (by omega) (by omega) (by omega), ih (k - 1) (i + 1) (out ++ [p[i].2.2.2.2.1]) (by omega) (by omega) (by simp; omega)]
    rw [List.drop_eq_getElem_cons hi, List.foldl_cons]
    have hst : litsF out p[i] = cond (litBM p[i] && !p[i].2.2.2.2.2.1) (out ++ [p[i].2.2.2.2.1]) out := rfl
    rw [hst]
    cases litBM p[i] <;> cases p[i].2.2.2.2.2.1 <;> rfl
theorem lits_v {N : Nat} {p : List Nd} (hf : Fits p) (hN : 1048576 < N) : ∃ r : List Int, F41 N p = some r ∧ F39 N p = some r ∧ r.length ≤ 1048576 := by
  obtain ⟨b, h1, h2, h3⟩ := planOk_v hf hN
  have hs := hf.1
  unfold F41 F39
  rw [h1, h2, andO_of, andO_of]
  cases b with
  | false => exact ⟨[], rfl, rfl, by simp⟩
  | true =>
    simp only [Bool.not_true, cond_false]
    refine ⟨p.foldl litsF [], ?_, ?_, ?_⟩
    · have := iLits_l N p hs p.length N 0 [] (by omega) (by omega) (by simp; omega)
      simpa using this
    · have := sLits_l N p hs p.length N 0 [] (by omega) (by omega) (by simp; omega)
      simpa using this
    · have := litsF_fold p []
      simp at this
      omega
theorem lawFnExactLiteralsOf (a : List Nd) (h : (Ty.sl ndT).wf a) : ∃ N, F7 N a = some true := by
  refine ⟨3000000, ?_⟩
  unfold F7
  obtain ⟨r, e1, e2, e3, e4⟩ := szNodeS_v (N := 3000000) (l := 1048576) (len_of h) (by omega) (by omega) (by omega)
  rw [e1, andO_of]
  by_cases hr : r < 0
  · rw [decide_eq_true hr, cond_true]
  · have hf := e4 (by omega)
    obtain ⟨q, h1, h2, hq⟩ := lits_v (N := 3000000) hf (by omega)
    obtain ⟨v, c, hm, hc0⟩ := markNodeS_v (N := 3000000) hf (by omega)
    rw [decide_eq_false hr, cond_false]
    have hd : F19 3000000 (upFrom 1 q.length) 1 = some (1 + (q.length : Int)) := heldIntS_v (by omega) (by omega) (by omega)
    simp only [toNodeS_v (N := 3000000) hf (by omega), andO_of, h1, h2, eqIntS_v (N := 3000000) (a := q) (b := q) (by omega) (by omega), decide_true, Bool.not_true, cond_false, eqNodeS_r (N := 3000000) hf (by omega), hm, dlt hc0,
      markIntS_v (N := 3000000) (a := q) (m := 1) (by omega) (by omega) (by omega), hd, dlt (show 0 ≤ 1 + (q.length : Int) by omega), bne_self_eq_false]
end Go.Proofs.Ytdihadbgbjhebaa.Vc
