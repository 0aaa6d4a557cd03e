/- Closed plans, lifted plans, templates. -/
import Derived.Test.YtckcbjaldmlomaaPuP
namespace Go.Proofs.Ytckcbjaldmlomaa.Vc
open Go Go.RowKit
set_option linter.unusedVariables false
set_option linter.unusedSimpArgs false

/-- A slot is one of the forty. -/
theorem slot_num {a : Nd} (h : nodeB a = true) (hs : a.2.2.2.2.2.1 = true) : 0 ≤ a.2.2.2.2.1 ∧ a.2.2.2.2.1 ≤ 39 := by
  obtain ⟨kind, name, col, op, num, slot, cols⟩ := a
  simp only at hs ⊢
  subst hs
  rw [← decide_eq_true_eq (p := 0 ≤ num ∧ num ≤ 39)]
  simp only [nodeB, Bool.not_true, Bool.and_false, Bool.false_and] at h
  generalize (decide (0 ≤ num ∧ num ≤ 39)) = s39 at h ⊢
  generalize (kind == 0) = q0 at h
  generalize (kind == 1) = q1 at h
  generalize (kind == 2) = q2 at h
  generalize (kind == 3) = q3 at h
  generalize (kind == 5) = q5 at h
  generalize (kind == 6) = q6 at h
  generalize (op == 3) = o3 at h
  cases q0 <;> simp only [cond_true, cond_false] at h
  · cases q1 <;> simp only [cond_true, cond_false] at h
    · cases q2 <;> simp only [cond_true, cond_false] at h
      · cases q3 <;> simp only [cond_true, cond_false] at h
        · cases q5 <;> simp only [cond_true, cond_false] at h
          · cases q6 <;> simp only [cond_true, cond_false] at h
            · cases h
            · cases s39
              · simp at h
              · rfl
          · cases h
        · cases h
      · cases h
    · cases o3
      · cases s39
        · simp at h
        · rfl
      · simp at h
  · cases h

def stepS (x : Int) (out : List Int) (nd : Nd) : List Int := cond (nd.2.2.2.2.2.1 && (nd.2.2.2.2.1 == x && !decide (x ∈ out))) (out ++ [x]) out

theorem stepS_len (x : Int) (out : List Int) (nd : Nd) : (stepS x out nd).length ≤ out.length + 1 := by
  unfold stepS
  cases (nd.2.2.2.2.2.1 && (nd.2.2.2.2.1 == x && !decide (x ∈ out))) <;> simp

theorem foldS_len (x : Int) : ∀ (p : List Nd) (out : List Int), (p.foldl (stepS x) out).length ≤ out.length + p.length
  | [], out => by simp
  | nd :: p, out => by
    have h1 := foldS_len x p (stepS x out nd)
    have h2 := stepS_len x out nd
    simp only [List.foldl_cons, List.length_cons]
    omega

theorem stepS_mem (x y : Int) (out : List Int) (nd : Nd) : y ∈ stepS x out nd ↔ y ∈ out ∨ (y = x ∧ nd.2.2.2.2.2.1 = true ∧ nd.2.2.2.2.1 = x) := by
  unfold stepS
  cases hs : nd.2.2.2.2.2.1
  · simp
  · by_cases hx : nd.2.2.2.2.1 = x
    · by_cases hm : x ∈ out
      · simp only [hm, decide_true, Bool.not_true, Bool.and_false, cond_false]
        constructor
        · exact .inl
        · rintro (h | ⟨rfl, -⟩)
          · exact h
          · exact hm
      · simp [hx, hm]
    · have he : (nd.2.2.2.2.1 == x) = false := by rw [beq_eq_false_iff_ne]; exact hx
      simp [hx, he]

theorem foldS_mem (x y : Int) : ∀ (p : List Nd) (out : List Int), y ∈ p.foldl (stepS x) out ↔ y ∈ out ∨ (y = x ∧ ∃ nd ∈ p, nd.2.2.2.2.2.1 = true ∧ nd.2.2.2.2.1 = x)
  | [], out => by simp
  | nd :: p, out => by
    rw [List.foldl_cons, foldS_mem x y p, stepS_mem]
    simp only [List.mem_cons, exists_eq_or_imp]
    constructor
    · rintro ((h | ⟨h1, h2⟩) | ⟨h1, h2⟩)
      · exact .inl h
      · exact .inr ⟨h1, .inl h2⟩
      · exact .inr ⟨h1, .inr h2⟩
    · rintro (h | ⟨h1, h2 | h2⟩)
      · exact .inl (.inl h)
      · exact .inl (.inr ⟨h1, h2⟩)
      · exact .inr ⟨h1, h2⟩

def slotsS (p : List Nd) (l : List Nat) (out : List Int) : List Int := l.foldl (fun o (x : Nat) => p.foldl (stepS (x : Int)) o) out

theorem slotsS_mem (p : List Nd) (y : Int) : ∀ (l : List Nat) (out : List Int), y ∈ slotsS p l out ↔ y ∈ out ∨ ∃ x ∈ l, y = (x : Int) ∧ ∃ nd ∈ p, nd.2.2.2.2.2.1 = true ∧ nd.2.2.2.2.1 = (x : Int)
  | [], out => by simp [slotsS]
  | x :: l, out => by
    have h := slotsS_mem p y l (p.foldl (stepS (x : Int)) out)
    simp only [slotsS, List.foldl_cons] at h ⊢
    rw [h, foldS_mem]
    simp only [List.mem_cons, exists_eq_or_imp, or_assoc]
theorem own_l (N : Nat) (p : List Nd) (hf : Fits p) : ∀ (d k i : Nat), i + d = p.length → d < k → F26_l0 N p k (p.take i) (p.length : Int) (i : Int) = some p := by
  intro d
  have hs := hf.1
  have hlim := lim_nd
  induction d with
  | zero =>
    intro k i h hk
    rw [F26_l0_s _ _ (by omega), F26_l0_b]
    simp only [show ¬ (i : Int) < (p.length : Int) by omega, decide_false, cond_false, F26_j0]
    rw [List.take_of_length_le (by omega)]
  | succ d ih =>
    intro k i h hk
    have hi : i < p.length := by omega
    have hm := hf.2 _ (List.getElem_mem hi)
    rw [F26_l0_s _ _ (by omega), F26_l0_b]
    simp only [show (i : Int) < (p.length : Int) by omega, decide_true, cond_true, gd_true (inR hi), Int.toNat_natCast, getD_at hi, clone_v (show p[i].2.2.2.2.2.2.length ≤ 5864062014805 by omega), andO_of]
    rw [gd_true (show (p.take i).length + [(p[i].1, (p[i].2.1, (p[i].2.2.1, (p[i].2.2.2.1, (p[i].2.2.2.2.1, (p[i].2.2.2.2.2.1, p[i].2.2.2.2.2.2))))))].length ≤ lim ndT by simp; omega)]
    rw [w64 (by omega) (by omega), show ((i : Int) + 1) = ((i + 1 : Nat) : Int) by omega]
    have := ih (k - 1) (i + 1) (by omega) (by omega)
    rw [List.take_succ_eq_append_getElem hi] at this
    exact this

theorem own_v {N : Nat} {p : List Nd} (hf : Fits p) (hN : 1048576 < N) : F26 N p = some p := by
  unfold F26
  have hs := hf.1
  exact own_l N p hf p.length N 0 (by omega) (by omega)
theorem l02Copy_l (N : Nat) (p : List Nd) (hf : Fits p) (hN : 1048576 < N) : ∀ (d k i : Nat), i + d = p.length → d < k → F23_l0 N p k (p.take i) (i : Int) = some p := by
  intro d
  have hs := hf.1
  have hlim := lim_nd
  induction d with
  | zero =>
    intro k i h hk
    rw [F23_l0_s _ _ (by omega), F23_l0_b]
    simp only [show ¬ (i : Int) < (p.length : Int) by omega, decide_false, cond_false, F23_j0]
    rw [List.take_of_length_le (by omega)]
  | succ d ih =>
    intro k i h hk
    have hi : i < p.length := by omega
    have hm := hf.2 _ (List.getElem_mem hi)
    rw [F23_l0_s _ _ (by omega), F23_l0_b]
    simp only [show (i : Int) < (p.length : Int) by omega, decide_true, cond_true, gd_true (inR hi), Int.toNat_natCast, getD_at hi, l01Copy_v (show p[i].2.2.2.2.2.2.length < N by omega) (show p[i].2.2.2.2.2.2.length ≤ 5864062014805 by omega), andO_of, F23_j1]
    have hg : ∀ c : List Int, (p.take i).length + [(p[i].1, (p[i].2.1, (p[i].2.2.1, (p[i].2.2.2.1, (p[i].2.2.2.2.1, (p[i].2.2.2.2.2.1, c))))))].length ≤ lim ndT := by
      intro c; simp; omega
    rw [gd_true (hg _), gd_true (hg _)]
    rw [w64 (by omega) (by omega), show ((i : Int) + 1) = ((i + 1 : Nat) : Int) by omega]
    have := ih (k - 1) (i + 1) (by omega) (by omega)
    rw [List.take_succ_eq_append_getElem hi] at this
    by_cases hc : ((p[i].2.2.2.2.2.2.length : Int)) > 0
    · rw [decide_eq_true hc, cond_true]
      exact this
    · rw [decide_eq_false hc, cond_false]
      have he : p[i].2.2.2.2.2.2 = [] := List.length_eq_zero_iff.mp (by omega)
      rw [← he]
      exact this

theorem l02Copy_v {N : Nat} {p : List Nd} (hf : Fits p) (hN : 1048576 < N) : F23 N p = some p := by
  unfold F23
  have hs := hf.1
  exact l02Copy_l N p hf hN p.length N 0 (by omega) (by omega)
def dN : Nd := (0, ByteArray.empty, 0, 0, 0, false, [])

/-- Whether a node has a literal. -/
def litB (a : Nd) : Bool := cond (a.1 == 1) (cond (a.2.2.2.1 != 3) true (a.1 == 6)) (a.1 == 6)

def slotN (x : Nd) (k : Int) : Nd := (x.1, x.2.1, x.2.2.1, x.2.2.2.1, k, true, x.2.2.2.2.2.2)

/-- A plan with its literals lifted, d nodes from i on. -/
def liftL : Nat → Nat → List Nd → List Int → List Nd × List Int × Bool
  | 0, _, l, v => (l, v, true)
  | d + 1, i, l, v => cond (litB (l.getD i dN)) (liftL d (i + 1) (l.set i (slotN (l.getD i dN) v.length)) (v ++ [(l.getD i dN).2.2.2.2.1])) (liftL d (i + 1) l v)

theorem liftL_cols : ∀ (d i : Nat) (l : List Nd) (v : List Int), (∀ x ∈ l, x.2.2.2.2.2.2.length ≤ 1048576) → ∀ x ∈ (liftL d i l v).1, x.2.2.2.2.2.2.length ≤ 1048576
  | 0, _, l, v, h => h
  | d + 1, i, l, v, h => by
    rw [liftL]
    cases litB (l.getD i dN) with
    | false => exact liftL_cols d (i + 1) l v h
    | true =>
      refine liftL_cols d (i + 1) _ _ fun x hx => ?_
      rcases List.mem_or_eq_of_mem_set hx with h1 | h1
      · exact h x h1
      · rw [h1]
        simp only [slotN, List.getD_eq_getElem?_getD]
        cases hg : l[i]? with
        | none => simp [dN]
        | some y => exact h y (List.mem_of_getElem? hg)

theorem liftL_length : ∀ (d i : Nat) (l : List Nd) (v : List Int), (liftL d i l v).1.length = l.length
  | 0, _, l, v => rfl
  | d + 1, i, l, v => by
    rw [liftL]
    cases litB (l.getD i dN) with
    | false => exact liftL_length d (i + 1) l v
    | true => simp only [cond_true]; rw [liftL_length d (i + 1)]; simp
end Go.Proofs.Ytckcbjaldmlomaa.Vc
