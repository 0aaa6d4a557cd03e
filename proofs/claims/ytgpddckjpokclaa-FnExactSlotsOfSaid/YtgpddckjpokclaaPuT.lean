/- Closed plans, lifted plans, templates. -/
import Derived.Test.YtgpddckjpokclaaPuP
namespace Go.Proofs.Ytgpddckjpokclaa.Vc
open Go Go.RowKit
set_option linter.unusedVariables false
set_option linter.unusedSimpArgs false

/-- A slot is one of the forty. -/
theorem slot_num {a : Nd} (h : nodeB a = true) (hs : a.2.2.2.2.2.1 = true) : 0 ≤ a.2.2.2.2.1 ∧ a.2.2.2.2.1 ≤ 39 := by
  obtain ⟨kind, name, col, op, num, slot, cols⟩ := a
  simp only at hs ⊢
  subst hs
  rw [← decide_eq_true_eq (p := 0 ≤ num ∧ num ≤ 39)]
  simp only [nodeB, Bool.not_true, Bool.and_false, Bool.false_and] at h
  generalize (decide (0 ≤ num ∧ num ≤ 39)) = s39 at h ⊢
  generalize (kind == 0) = q0 at h
  generalize (kind == 1) = q1 at h
  generalize (kind == 2) = q2 at h
  generalize (kind == 3) = q3 at h
  generalize (kind == 5) = q5 at h
  generalize (kind == 6) = q6 at h
  generalize (op == 3) = o3 at h
  cases q0 <;> simp only [cond_true, cond_false] at h
  · cases q1 <;> simp only [cond_true, cond_false] at h
    · cases q2 <;> simp only [cond_true, cond_false] at h
      · cases q3 <;> simp only [cond_true, cond_false] at h
        · cases q5 <;> simp only [cond_true, cond_false] at h
          · cases q6 <;> simp only [cond_true, cond_false] at h
            · cases h
            · cases s39
              · simp at h
              · rfl
          · cases h
        · cases h
      · cases h
    · cases o3
      · cases s39
        · simp at h
        · rfl
      · simp at h
  · cases h

def stepS (x : Int) (out : List Int) (nd : Nd) : List Int := cond (nd.2.2.2.2.2.1 && (nd.2.2.2.2.1 == x && !decide (x ∈ out))) (out ++ [x]) out

theorem stepS_len (x : Int) (out : List Int) (nd : Nd) : (stepS x out nd).length ≤ out.length + 1 := by
  unfold stepS
  cases (nd.2.2.2.2.2.1 && (nd.2.2.2.2.1 == x && !decide (x ∈ out))) <;> simp

theorem foldS_len (x : Int) : ∀ (p : List Nd) (out : List Int), (p.foldl (stepS x) out).length ≤ out.length + p.length
  | [], out => by simp
  | nd :: p, out => by
    have h1 := foldS_len x p (stepS x out nd)
    have h2 := stepS_len x out nd
    simp only [List.foldl_cons, List.length_cons]
    omega

theorem stepS_mem (x y : Int) (out : List Int) (nd : Nd) : y ∈ stepS x out nd ↔ y ∈ out ∨ (y = x ∧ nd.2.2.2.2.2.1 = true ∧ nd.2.2.2.2.1 = x) := by
  unfold stepS
  cases hs : nd.2.2.2.2.2.1
  · simp
  · by_cases hx : nd.2.2.2.2.1 = x
    · by_cases hm : x ∈ out
      · simp only [hm, decide_true, Bool.not_true, Bool.and_false, cond_false]
        constructor
        · exact .inl
        · rintro (h | ⟨rfl, -⟩)
          · exact h
          · exact hm
      · simp [hx, hm]
    · have he : (nd.2.2.2.2.1 == x) = false := by rw [beq_eq_false_iff_ne]; exact hx
      simp [hx, he]

theorem foldS_mem (x y : Int) : ∀ (p : List Nd) (out : List Int), y ∈ p.foldl (stepS x) out ↔ y ∈ out ∨ (y = x ∧ ∃ nd ∈ p, nd.2.2.2.2.2.1 = true ∧ nd.2.2.2.2.1 = x)
  | [], out => by simp
  | nd :: p, out => by
    rw [List.foldl_cons, foldS_mem x y p, stepS_mem]
    simp only [List.mem_cons, exists_eq_or_imp]
    constructor
    · rintro ((h | ⟨h1, h2⟩) | ⟨h1, h2⟩)
      · exact .inl h
      · exact .inr ⟨h1, .inl h2⟩
      · exact .inr ⟨h1, .inr h2⟩
    · rintro (h | ⟨h1, h2 | h2⟩)
      · exact .inl (.inl h)
      · exact .inl (.inr ⟨h1, h2⟩)
      · exact .inr ⟨h1, h2⟩

def slotsS (p : List Nd) (l : List Nat) (out : List Int) : List Int := l.foldl (fun o (x : Nat) => p.foldl (stepS (x : Int)) o) out

theorem slotsS_mem (p : List Nd) (y : Int) : ∀ (l : List Nat) (out : List Int), y ∈ slotsS p l out ↔ y ∈ out ∨ ∃ x ∈ l, y = (x : Int) ∧ ∃ nd ∈ p, nd.2.2.2.2.2.1 = true ∧ nd.2.2.2.2.1 = (x : Int)
  | [], out => by simp [slotsS]
  | x :: l, out => by
    have h := slotsS_mem p y l (p.foldl (stepS (x : Int)) out)
    simp only [slotsS, List.foldl_cons] at h ⊢
    rw [h, foldS_mem]
    simp only [List.mem_cons, exists_eq_or_imp, or_assoc]
theorem slotsIn_l (N : Nat) (p : List Nd) (hs : p.length ≤ 40) (hN : 1048576 < N) (nx : List Int → Int → Option (List Int)) (x : Nat) (hx : x ≤ 40) : ∀ (d k i : Nat) (out : List Int), i + d = p.length → d < k → out.length + d ≤ 100000 →
    F30_l0 N p nx (x : Int) k out (i : Int) = nx ((p.drop i).foldl (stepS (x : Int)) out) ((x + 1 : Nat) : Int) := by
  intro d
  have hlim := lim_i64
  induction d with
  | zero =>
    intro k i out h hk ho
    rw [F30_l0_s _ _ _ _ (by omega), F30_l0_b]
    simp only [show ¬ (i : Int) < (p.length : Int) by omega, decide_false, cond_false, F30_j1]
    rw [List.drop_eq_nil_of_le (by omega), w64 (by omega) (by omega)]
    rfl
  | succ d ih =>
    intro k i out h hk ho
    have hi : i < p.length := by omega
    have h1 := stepS_len (x : Int) out p[i]
    rw [F30_l0_s _ _ _ _ (by omega), F30_l0_b]
    simp only [show (i : Int) < (p.length : Int) by omega, decide_true, cond_true, gd_true (inR hi), Int.toNat_natCast, getD_at hi, F30_j2]
    rw [w64 (by omega) (by omega), show ((i : Int) + 1) = ((i + 1 : Nat) : Int) by omega, ih (k - 1) (i + 1) out (by omega) (by omega) (by omega), l01Has_v (by omega) (by omega), andO_of, gd_true (show out.length + [(x : Int)].length ≤ lim (.int .i64) by simp; omega), ih (k - 1) (i + 1) (out ++ [(x : Int)]) (by omega) (by omega) (by simp; omega)]
    rw [List.drop_eq_getElem_cons hi, List.foldl_cons]
    have hst : stepS (x : Int) out p[i] = cond (p[i].2.2.2.2.2.1 && (p[i].2.2.2.2.1 == (x : Int) && !decide ((x : Int) ∈ out))) (out ++ [(x : Int)]) out := rfl
    rw [hst]
    cases p[i].2.2.2.2.2.1 with
    | false => rfl
    | true =>
      cases (p[i].2.2.2.2.1 == (x : Int)) with
      | false => rfl
      | true => cases decide ((x : Int) ∈ out) <;> rfl

theorem slotsOut_l (N : Nat) (p : List Nd) (hs : p.length ≤ 40) (hN : 1048576 < N) : ∀ (m k j : Nat) (out : List Int), j + m = 40 → m < k → out.length + m * 40 ≤ 100000 →
    F30_l1 N p k out (j : Int) = some (slotsS p (List.range' j m) out) := by
  intro m
  induction m with
  | zero =>
    intro k j out h hk ho
    rw [F30_l1_s _ _ (by omega), F30_l1_b]
    simp only [show ¬ (j : Int) < 40 by omega, decide_false, cond_false, F30_j0]
    rfl
  | succ m ih =>
    intro k j out h hk ho
    rw [F30_l1_s _ _ (by omega), F30_l1_b]
    simp only [show (j : Int) < 40 by omega, decide_true, cond_true]
    have h1 := foldS_len (j : Int) p out
    have hi := slotsIn_l N p hs hN (F30_l1 N p (k - 1)) j (by omega) p.length N 0 out (by omega) (by omega) (by omega)
    rw [show (((0 : Nat)) : Int) = 0 from rfl, List.drop_zero] at hi
    rw [hi, ih (k - 1) (j + 1) _ (by omega) (by omega) (by omega)]
    rfl

theorem slotsOf_v {N : Nat} {p : List Nd} (hf : Fits p) (hN : 1048576 < N) {b : Bool} (hb : F86 N p = some b) (h40 : b = true → p.length ≤ 40) : F30 N p = some (cond b (slotsS p (List.range' 0 40) []) []) := by
  unfold F30
  rw [hb, andO_of]
  cases b with
  | false => rfl
  | true => exact slotsOut_l N p (h40 rfl) hN 40 N 0 [] (by omega) (by omega) (by simp)
def dN : Nd := (0, ByteArray.empty, 0, 0, 0, false, [])

/-- Whether a node has a literal. -/
def litB (a : Nd) : Bool := cond (a.1 == 1) (cond (a.2.2.2.1 != 3) true (a.1 == 6)) (a.1 == 6)

def slotN (x : Nd) (k : Int) : Nd := (x.1, x.2.1, x.2.2.1, x.2.2.2.1, k, true, x.2.2.2.2.2.2)

/-- A plan with its literals lifted, d nodes from i on. -/
def liftL : Nat → Nat → List Nd → List Int → List Nd × List Int × Bool
  | 0, _, l, v => (l, v, true)
  | d + 1, i, l, v => cond (litB (l.getD i dN)) (liftL d (i + 1) (l.set i (slotN (l.getD i dN) v.length)) (v ++ [(l.getD i dN).2.2.2.2.1])) (liftL d (i + 1) l v)

theorem liftL_cols : ∀ (d i : Nat) (l : List Nd) (v : List Int), (∀ x ∈ l, x.2.2.2.2.2.2.length ≤ 1048576) → ∀ x ∈ (liftL d i l v).1, x.2.2.2.2.2.2.length ≤ 1048576
  | 0, _, l, v, h => h
  | d + 1, i, l, v, h => by
    rw [liftL]
    cases litB (l.getD i dN) with
    | false => exact liftL_cols d (i + 1) l v h
    | true =>
      refine liftL_cols d (i + 1) _ _ fun x hx => ?_
      rcases List.mem_or_eq_of_mem_set hx with h1 | h1
      · exact h x h1
      · rw [h1]
        simp only [slotN, List.getD_eq_getElem?_getD]
        cases hg : l[i]? with
        | none => simp [dN]
        | some y => exact h y (List.mem_of_getElem? hg)

theorem liftL_length : ∀ (d i : Nat) (l : List Nd) (v : List Int), (liftL d i l v).1.length = l.length
  | 0, _, l, v => rfl
  | d + 1, i, l, v => by
    rw [liftL]
    cases litB (l.getD i dN) with
    | false => exact liftL_length d (i + 1) l v
    | true => simp only [cond_true]; rw [liftL_length d (i + 1)]; simp
end Go.Proofs.Ytgpddckjpokclaa.Vc
