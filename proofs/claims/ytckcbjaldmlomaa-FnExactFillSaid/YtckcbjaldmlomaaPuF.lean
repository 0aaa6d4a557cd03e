/- Filled plans. -/
import Derived.Test.YtckcbjaldmlomaaPuT
import Derived.Test.YtckcbjaldmlomaaPuH
namespace Go.Proofs.Ytckcbjaldmlomaa.Vc
open Go Go.RowKit
set_option linter.unusedVariables false
set_option linter.unusedSimpArgs false

def fillN (x : Nd) (v : Int) : Nd := (x.1, x.2.1, x.2.2.1, x.2.2.2.1, v, false, x.2.2.2.2.2.2)

/-- A plan with its slots filled, d nodes from i on. -/
def fillL (vals : List Int) : Nat → Nat → List Nd → Option (List Nd)
  | 0, _, l => some l
  | d + 1, i, l => cond (l.getD i dN).2.2.2.2.2.1 (cond (decide ((l.getD i dN).2.2.2.2.1 ≥ (vals.length : Int))) none (fillL vals d (i + 1) (l.set i (fillN (l.getD i dN) (vals.getD (l.getD i dN).2.2.2.2.1.toNat 0))))) (fillL vals d (i + 1) l)

theorem fillL_keep (vals : List Int) (A : Nd → Prop) (hA : ∀ x v, A x → A (fillN x v)) (hd : A dN) : ∀ (d i : Nat) (l o : List Nd), fillL vals d i l = some o → (∀ x ∈ l, A x) → o.length = l.length ∧ ∀ x ∈ o, A x
  | 0, i, l, o, h, hl => by
    simp only [fillL, Option.some.injEq] at h
    subst h
    exact ⟨rfl, hl⟩
  | d + 1, i, l, o, h, hl => by
    rw [fillL] at h
    cases hs : (l.getD i dN).2.2.2.2.2.1 with
    | false =>
      rw [hs, cond_false] at h
      exact fillL_keep vals A hA hd d (i + 1) l o h hl
    | true =>
      rw [hs, cond_true] at h
      cases hc : decide ((l.getD i dN).2.2.2.2.1 ≥ (vals.length : Int)) with
      | true => rw [hc] at h; simp at h
      | false =>
        rw [hc, cond_false] at h
        have hx : A (l.getD i dN) := by
          rw [List.getD_eq_getElem?_getD]
          cases hg : l[i]? with
          | none => exact hd
          | some y => exact hl y (List.mem_of_getElem? hg)
        obtain ⟨h1, h2⟩ := fillL_keep vals A hA hd d (i + 1) _ o h (fun x hx' => by
          rcases List.mem_or_eq_of_mem_set hx' with h3 | h3
          · exact hl x h3
          · rw [h3]; exact hA _ _ hx)
        exact ⟨by rw [h1, List.length_set], h2⟩

theorem markK_le : ∀ (l : List Nd) (m : Int), (∀ x ∈ l, x.2.2.2.2.2.2.length ≤ 1048576) → markK l m ≤ m + 2000000 * l.length
  | [], m, _ => by simp [markK]
  | x :: l, m, h => by
    rw [markK]
    have h1 := h x List.mem_cons_self
    have h2 := markK_le l (m + 1 + 1 + 1 + 1 + 1 + 1 + x.2.2.2.2.2.2.length) (fun y hy => h y (List.mem_cons_of_mem _ hy))
    simp only [List.length_cons]
    omega
theorem iFill_l (N n : Nat) (vals : List Int) (hn : n ≤ 1000000) : ∀ (d k i : Nat) (l : List Nd), l.length = n → i + d = n → d < k → (∀ j, i ≤ j → ∀ h : j < l.length, l[j].2.2.2.2.2.1 = true → 0 ≤ l[j].2.2.2.2.1) →
    F10_l0 N vals k l (n : Int) (i : Int) = (match fillL vals d i l with | none => some ([], false) | some o => F10_j0 N o) := by
  intro d
  induction d with
  | zero =>
    intro k i l hl h hk hs
    rw [F10_l0_s _ _ (by omega), F10_l0_b]
    simp only [show ¬ (i : Int) < (n : Int) by omega, decide_false, cond_false, fillL]
  | succ d ih =>
    intro k i l hl h hk hs
    have hi : i < l.length := by omega
    rw [F10_l0_s _ _ (by omega), F10_l0_b]
    simp only [show (i : Int) < (n : Int) by omega, decide_true, cond_true, gd_true (inR hi), gd_true hi, Int.toNat_natCast, getD_at hi, F10_j1, List.length_set]
    rw [fillL, getD_at hi, w64 (x := (i : Int) + 1) (by omega) (by omega), show ((i : Int) + 1) = ((i + 1 : Nat) : Int) by omega]
    cases hsl : l[i].2.2.2.2.2.1 with
    | false =>
      simp only [Bool.not_false, cond_true, cond_false]
      exact ih (k - 1) (i + 1) l hl (by omega) (by omega) (fun j hj => hs j (by omega))
    | true =>
      simp only [Bool.not_true, cond_false, cond_true]
      by_cases hc : l[i].2.2.2.2.1 ≥ (vals.length : Int)
      · simp only [hc, decide_true, cond_true]
      · have h0 := hs i (Nat.le_refl _) hi hsl
        simp only [hc, decide_false, cond_false]
        rw [gd_true (by simp only [InR]; omega)]
        refine ih (k - 1) (i + 1) (l.set i (fillN l[i] (vals.getD l[i].2.2.2.2.1.toNat 0))) (by rw [List.length_set]; exact hl) (by omega) (by omega) (fun j hj hjl => ?_)
        rw [List.getElem_set_ne (by omega)]
        exact hs j (by omega) (by simpa using hjl)
theorem sFill_l (N n : Nat) (vals : List Int) (hn : n ≤ 1000000) : ∀ (d k i : Nat) (l : List Nd), l.length = n → i + d = n → d < k → (∀ j, i ≤ j → ∀ h : j < l.length, l[j].2.2.2.2.2.1 = true → 0 ≤ l[j].2.2.2.2.1) →
    F7_l0 N vals k l (i : Int) = (match fillL vals d i l with | none => some ([], false) | some o => F7_j0 N o) := by
  intro d
  induction d with
  | zero =>
    intro k i l hl h hk hs
    rw [F7_l0_s _ _ (by omega), F7_l0_b]
    simp only [show ¬ (i : Int) < (l.length : Int) by omega, decide_false, cond_false, fillL]
  | succ d ih =>
    intro k i l hl h hk hs
    have hi : i < l.length := by omega
    have hi2 : ∀ y : Nd, i < (l.set i y).length := fun y => by rw [List.length_set]; exact hi
    rw [F7_l0_s _ _ (by omega), F7_l0_b]
    simp only [show (i : Int) < (l.length : Int) by omega, decide_true, cond_true, gd_true (inR hi), gd_true hi, Int.toNat_natCast, getD_at hi, F7_j1, List.length_set, getD_at (hi2 _), List.getElem_set_self]
    rw [fillL, getD_at hi, w64 (x := (i : Int) + 1) (by omega) (by omega), show ((i : Int) + 1) = ((i + 1 : Nat) : Int) by omega]
    cases hsl : l[i].2.2.2.2.2.1 with
    | false =>
      simp only [Bool.not_false, cond_true, cond_false]
      exact ih (k - 1) (i + 1) l hl (by omega) (by omega) (fun j hj => hs j (by omega))
    | true =>
      simp only [Bool.not_true, cond_false, cond_true]
      by_cases hc : l[i].2.2.2.2.1 ≥ (vals.length : Int)
      · simp only [hc, decide_true, cond_true]
      · have h0 := hs i (Nat.le_refl _) hi hsl
        simp only [hc, decide_false, cond_false]
        rw [gd_true (by simp only [InR]; omega)]
        refine ih (k - 1) (i + 1) (l.set i (fillN l[i] (vals.getD l[i].2.2.2.2.1.toNat 0))) (by rw [List.length_set]; exact hl) (by omega) (by omega) (fun j hj hjl => ?_)
        rw [List.getElem_set_ne (by omega)]
        exact hs j (by omega) (by simpa using hjl)
theorem fill_v {N : Nat} {p : List Nd} {vals : List Int} (hf : Fits p) (hN : 1048576 < N) : ∃ r : List Nd × Bool, F10 N p vals = some r ∧ F7 N p vals = some r ∧ r.1.length ≤ 1048576 ∧ (∀ x ∈ r.1, x.2.2.2.2.2.2.length ≤ 1048576) := by
  obtain ⟨b, h1, h2, h3⟩ := planOk_v hf hN
  have hs := hf.1
  unfold F10 F7
  rw [h1, h2, andO_of, andO_of]
  cases b with
  | false => exact ⟨([], false), rfl, rfl, by simp, fun x hx => by cases hx⟩
  | true =>
    simp only [Bool.not_true, cond_false]
    have h40 := (h3 rfl).1
    have hsl : ∀ j, 0 ≤ j → ∀ h : j < p.length, p[j].2.2.2.2.2.1 = true → 0 ≤ p[j].2.2.2.2.1 := fun j _ h e => (slot_num ((h3 rfl).2 _ (List.getElem_mem h)) e).1
    rw [own_v hf hN, l02Copy_v hf hN, andO_of, andO_of]
    have e1 := iFill_l N p.length vals (by omega) p.length N 0 p rfl (by omega) (by omega) hsl
    have e2 := sFill_l N p.length vals (by omega) p.length N 0 p rfl (by omega) (by omega) hsl
    rw [show (((0 : Nat)) : Int) = 0 from rfl] at e1 e2
    rw [e1, e2]
    cases hfl : fillL vals p.length 0 p with
    | none => exact ⟨([], false), rfl, rfl, by simp, fun x hx => by cases hx⟩
    | some o =>
      obtain ⟨k1, k2⟩ := fillL_keep vals (fun x => x.2.1.size ≤ 1048576 ∧ x.2.2.2.2.2.2.length ≤ 1048576) (fun x v h => h) ⟨by show (0 : Nat) ≤ _; omega, by simp [dN]⟩ _ _ _ _ hfl hf.2
      have hfo : Fits o := ⟨by omega, k2⟩
      obtain ⟨b2, g1, g2, _⟩ := planOk_v hfo hN
      simp only [F10_j0, F7_j0, g1, g2, andO_of]
      cases b2 with
      | false => exact ⟨([], false), rfl, rfl, by simp, fun x hx => by cases hx⟩
      | true => exact ⟨(o, true), rfl, rfl, by show o.length ≤ _; omega, fun x hx => (k2 x hx).2⟩
theorem lawFnExactFill (a : List Nd) (v : List Int) (h : (Ty.sl ndT).wf a) (hv : (Ty.sl (.int .i64)).wf v) : ∃ N, F3 N a v = some true := by
  refine ⟨3000000, ?_⟩
  unfold F3
  by_cases hl : (v.length : Int) > 1048576
  · simp only [hl, decide_true, cond_true]
  · rw [decide_eq_false hl, cond_false]
    obtain ⟨r, e1, e2, e3, e4⟩ := szNodeS_v (N := 3000000) (l := 1048576) (len_of h) (by omega) (by omega) (by omega)
    rw [e1, andO_of]
    by_cases hr : r < 0
    · rw [decide_eq_true hr, cond_true]
    · have hf := e4 (by omega)
      have hs := hf.1
      have hfc : ∀ x ∈ a, x.2.2.2.2.2.2.length ≤ 1048576 := fun x hx => (hf.2 x hx).2
      obtain ⟨q, h1, h2, hq, hqc⟩ := fill_v (N := 3000000) (vals := v) hf (by omega)
      have m1 := markNodeX_v (N := 3000000) hs hfc (by omega)
      have m2 := markNodeX_v (N := 3000000) hq hqc (by omega)
      have m3 := heldNodeX_v (N := 3000000) hq hqc (by omega)
      have k1 := markK_ge a 1
      have k2 := markK_le a 1 hfc
      have k3 := markK_ge q.1 1
      have m4 := markIntS_v (N := 3000000) (a := v) (m := markK a 1) (by omega) (by omega) (by omega)
      rw [decide_eq_false hr, cond_false]
      simp only [toNodeS_v (N := 3000000) hf (by omega), toIntS_v (N := 3000000) (a := v) (by omega) (by omega), andO_of, h1, h2, eqNodeC_r (N := 3000000) hq hqc (by omega), beq_self_eq_true, Bool.not_true, cond_false, eqNodeS_r (N := 3000000) hf (by omega),
        eqIntS_v (N := 3000000) (a := v) (b := v) (by omega) (by omega), decide_true, m1, m4, dlt (show 0 ≤ markK a 1 + (v.length : Int) by omega), m2, m3, dlt (show 0 ≤ markK q.1 1 by omega), bne_self_eq_false]
end Go.Proofs.Ytckcbjaldmlomaa.Vc
