/- Lifted plans. -/
import Derived.Test.YtckcbjaldmlomaaPuT
import Derived.Test.YtckcbjaldmlomaaPuH
namespace Go.Proofs.Ytckcbjaldmlomaa.Vc
open Go Go.RowKit
set_option linter.unusedVariables false
set_option linter.unusedSimpArgs false

theorem liftL_vals : ∀ (d i : Nat) (l : List Nd) (v : List Int), (liftL d i l v).2.1.length ≤ v.length + d
  | 0, _, l, v => Nat.le_refl _
  | d + 1, i, l, v => by
    rw [liftL]
    cases litB (l.getD i dN) with
    | false => exact Nat.le_trans (liftL_vals d (i + 1) l v) (by omega)
    | true => exact Nat.le_trans (liftL_vals d (i + 1) _ _) (by simp; omega)

theorem markK_top : ∀ (l : List Nd) (m : Int), (∀ x ∈ l, x.2.2.2.2.2.2.length ≤ 1048576) → markK l m ≤ m + 2000000 * l.length
  | [], m, _ => by simp [markK]
  | x :: l, m, h => by
    have h1 := h x (by simp)
    have h2 := markK_top l (m + 1 + 1 + 1 + 1 + 1 + 1 + x.2.2.2.2.2.2.length) (fun y hy => h y (by simp [hy]))
    simp only [markK, List.length_cons]
    omega
theorem lift_w {N : Nat} {p : List Nd} (hf : Fits p) (hN : 1048576 < N) : ∃ r : List Nd × List Int × Bool, F19 N p = some r ∧ F18 N p = some r ∧ r.1.length ≤ 1048576 ∧ (∀ x ∈ r.1, x.2.2.2.2.2.2.length ≤ 1048576) ∧ r.2.1.length ≤ 1048576 := by
  obtain ⟨b, h1, h2, h3⟩ := closed_v hf hN
  have hs := hf.1
  unfold F19 F18
  rw [h1, h2, andO_of, andO_of]
  cases b with
  | false => exact ⟨([], [], false), rfl, rfl, by simp, (fun x hx => by cases hx), by simp⟩
  | true =>
    simp only [Bool.not_true, cond_false]
    have h40 := (h3 rfl).1
    rw [own_v hf hN, l02Copy_v hf hN, andO_of, andO_of]
    refine ⟨liftL p.length 0 p [], iLift_l N p.length (by omega) p.length N 0 p [] rfl (by omega) (by omega) (by simp), sLift_l N p.length (by omega) p.length N 0 p [] rfl (by omega) (by omega) (by simp), ?_, ?_, ?_⟩
    · rw [liftL_length]; omega
    · exact liftL_cols _ _ _ _ fun x hx => (hf.2 x hx).2
    · have := liftL_vals p.length 0 p []
      simp at this
      omega
theorem lawFnExactLift (a : List Nd) (h : (Ty.sl ndT).wf a) : ∃ N, F5 N a = some true := by
  refine ⟨3000000, ?_⟩
  unfold F5
  obtain ⟨r, e1, e2, e3, e4⟩ := szNodeS_v (N := 3000000) (l := 1048576) (len_of h) (by omega) (by omega) (by omega)
  rw [e1, andO_of]
  by_cases hr : r < 0
  · rw [decide_eq_true hr, cond_true]
  · have hf := e4 (by omega)
    have hs := hf.1
    have hfc : ∀ x ∈ a, x.2.2.2.2.2.2.length ≤ 1048576 := fun x hx => (hf.2 x hx).2
    obtain ⟨q, h1, h2, hq, hqc, hqv⟩ := lift_w (N := 3000000) hf (by omega)
    have m1 := markNodeX_v (N := 3000000) hs hfc (by omega)
    have m2 := markNodeX_v (N := 3000000) hq hqc (by omega)
    have m3 := heldNodeX_v (N := 3000000) hq hqc (by omega)
    have k1 := markK_ge a 1
    have k2 := markK_top q.1 1 hqc
    have k3 := markK_ge q.1 1
    have m4 := markIntS_v (N := 3000000) (a := q.2.1) (m := markK q.1 1) (by omega) (by omega) (by omega)
    have m5 := heldIntS_v (N := 3000000) (n := q.2.1.length) (m := markK q.1 1) (by omega) (by omega) (by omega)
    rw [decide_eq_false hr, cond_false]
    simp only [toNodeS_v (N := 3000000) hf (by omega), andO_of, h1, h2, eqNodeC_r (N := 3000000) hq hqc (by omega), beq_self_eq_true, Bool.not_true, cond_false, eqNodeS_r (N := 3000000) hf (by omega),
      eqIntS_v (N := 3000000) (a := q.2.1) (b := q.2.1) (by omega) (by omega), decide_true,
      m1, dlt (show 0 ≤ markK a 1 by omega), m2, m3, m4, m5, dlt (show 0 ≤ markK q.1 1 by omega), dlt (show 0 ≤ markK q.1 1 + (q.2.1.length : Int) by omega), bne_self_eq_false]
end Go.Proofs.Ytckcbjaldmlomaa.Vc
