/- What the laws' own functions give: whole numbers, lists of them, caches. -/
import Derived.Test.YtgpddckjpokclaaDoorVt
import Derived.Test.YtgpddckjpokclaaDoorPu0
namespace Go.Proofs.YtgpddckjpokclaaDoor.Vc
open Go Go.RowKit
set_option linter.unusedVariables false
set_option linter.unusedSimpArgs false
theorem eqIntS_l (N : Nat) (a b : List Int) (hl : a.length = b.length) (hs : a.length < 4611686018427387904) : ∀ (d k i : Nat), i + d = a.length → d < k → F52_l0 N a b k (i : Int) = some (decide (a.drop i = b.drop i)) := by
  intro d
  induction d with
  | zero =>
    intro k i h hk
    rw [F52_l0_s _ _ _ (by omega), F52_l0_b]
    simp only [show ¬ (i : Int) < (a.length : Int) by omega, decide_false, cond_false, F52_j0]
    rw [List.drop_eq_nil_of_le (by omega), List.drop_eq_nil_of_le (by omega)]
    rfl
  | succ d ih =>
    intro k i h hk
    have hi : i < a.length := by omega
    have hi' : i < b.length := by omega
    rw [F52_l0_s _ _ _ (by omega), F52_l0_b]
    simp only [show (i : Int) < (a.length : Int) by omega, decide_true, cond_true, gd_true (inR hi), gd_true (inR hi'), Int.toNat_natCast, getD_at hi, getD_at hi']
    rw [w64 (by omega) (by omega), show ((i : Int) + 1) = ((i + 1 : Nat) : Int) by omega, ih (k - 1) (i + 1) (by omega) (by omega)]
    by_cases hx : a[i] = b[i]
    · simp only [hx, bne_self_eq_false, cond_false, drop_eq_iff hi hi', true_and]
    · have : (a[i] != b[i]) = true := by simp [hx]
      simp only [this, cond_true, drop_eq_iff hi hi', hx, false_and, decide_false]

/-- eqIntS. -/
theorem eqIntS_v {N : Nat} {a b : List Int} (hs : a.length < N) (hN : a.length < 4611686018427387904) : F52 N a b = some (decide (a = b)) := by
  unfold F52
  rw [bne_len]
  by_cases hl : a.length = b.length
  · simp only [hl, ne_eq, not_true_eq_false, decide_false, cond_false]
    have := eqIntS_l N a b hl hN a.length N 0 (by omega) hs
    simpa using this
  · have : a ≠ b := fun e => hl (by rw [e])
    simp [hl, this]
/-- The numbers from k on. -/
def upFrom (k : Int) : Nat → List Int
  | 0 => []
  | n + 1 => k :: upFrom (k + 1) n

theorem upFrom_length (k : Int) (n : Nat) : (upFrom k n).length = n := by
  induction n generalizing k with
  | zero => rfl
  | succ n ih => simp [upFrom, ih]

theorem upFrom_at {n : Nat} : ∀ {k : Int} {i : Nat} (h : i < (upFrom k n).length), (upFrom k n)[i] = k + i := by
  induction n with
  | zero => intro k i h; simp [upFrom] at h
  | succ n ih =>
    intro k i h
    cases i with
    | zero => simp [upFrom]
    | succ i =>
      simp only [upFrom, List.getElem_cons_succ]
      rw [ih]
      omega

theorem upFrom_snoc (k : Int) (n : Nat) : upFrom k (n + 1) = upFrom k n ++ [k + n] := by
  induction n generalizing k with
  | zero => simp [upFrom]
  | succ n ih =>
    rw [upFrom, ih (k + 1)]
    simp only [upFrom, List.cons_append, List.cons.injEq, true_and, List.append_cancel_left_eq, and_true]
    omega

theorem set_next (u : List Int) (a : List Int) (i : Nat) (hi : i < a.length) (hu : u.length = i) (v : Int) : (u ++ a.drop i).set i v = u ++ [v] ++ a.drop (i + 1) := by
  subst hu
  rw [List.set_append_right _ _ (Nat.le_refl _), Nat.sub_self, List.drop_eq_getElem_cons hi, List.set_cons_zero, List.append_assoc, List.singleton_append]
theorem toIntS_l (N : Nat) (a : List Int) (hs : a.length < 4611686018427387904) : ∀ (d k i : Nat), i + d = a.length → d < k → F51_l0 N a k (a.take i ++ List.replicate (a.length - i) 0) (i : Int) = some a := by
  intro d
  induction d with
  | zero =>
    intro k i h hk
    have hi : i = a.length := by omega
    subst hi
    rw [F51_l0_s _ _ (by omega), F51_l0_b]
    simp [F51_j0]
  | succ d ih =>
    intro k i h hk
    have hi : i < a.length := by omega
    have hl : (a.take i ++ List.replicate (a.length - i) (0 : Int)).length = a.length := by simp; omega
    rw [F51_l0_s _ _ (by omega), F51_l0_b]
    simp only [hl, show (i : Int) < (a.length : Int) by omega, decide_true, cond_true, gd_true (inR hi), Int.toNat_natCast, gd_true hi, getD_at hi]
    rw [w64 (x := (i : Int) + 1) (by omega) (by omega), show ((i : Int) + 1) = ((i + 1 : Nat) : Int) by omega]
    have hset : (a.take i ++ List.replicate (a.length - i) (0 : Int)).set i a[i] = a.take (i + 1) ++ List.replicate (a.length - (i + 1)) 0 := by
      rw [List.set_append_right _ _ (by simp; omega), show (a.length - i) = (a.length - (i + 1)) + 1 by omega, List.replicate_succ]
      have : i - (a.take i).length = 0 := by simp; omega
      rw [this, List.set_cons_zero, List.take_succ_eq_append_getElem hi, List.append_assoc, List.singleton_append]
    rw [hset]
    exact ih (k - 1) (i + 1) (by omega) (by omega)

theorem toIntS_v {N : Nat} {a : List Int} (hs : a.length < N) (hN : a.length ≤ 5864062014805) : F51 N a = some a := by
  unfold F51
  rw [gd_true ⟨by omega, by rw [lim_i64]; omega, rfl⟩]
  have := toIntS_l N a (by omega) a.length N 0 (by omega) hs
  simpa [Ty.dflt] using this
theorem szIntS_v {N : Nat} {a : List Int} {l : Int} (hl : 0 ≤ l) (hl2 : l ≤ 1048576) (hs : a.length ≤ 9223372036854775807) : F50 N a l = some (if (a.length : Int) ≤ l then l - a.length else -1) := by
  unfold F50
  rw [w64 (by omega) (by omega)]
  by_cases h : (a.length : Int) ≤ l
  · simp [h, show ¬ l - (a.length : Int) < 0 by omega]
  · simp [h, show l - (a.length : Int) < 0 by omega]
abbrev Ca := Int × (List Int × List Int)
theorem szCache_v {N : Nat} {c : Ca} {l : Int} (hl : 0 ≤ l) (hl2 : l ≤ 1048576) (h1 : c.2.1.length ≤ 9223372036854775807) (h2 : c.2.2.length ≤ 9223372036854775807) :
    F25 N c l = some (if (c.2.1.length : Int) + c.2.2.length ≤ l then l - c.2.1.length - c.2.2.length else -1) := by
  unfold F25
  rw [szIntS_v hl hl2 h1, andO_of]
  by_cases h : (c.2.1.length : Int) ≤ l
  · simp only [h, if_true, show ¬ l - (c.2.1.length : Int) < 0 by omega, decide_false, cond_false]
    rw [szIntS_v (by omega) (by omega) h2, andO_of]
    by_cases h' : (c.2.2.length : Int) ≤ l - c.2.1.length
    · simp only [h', if_true, show ¬ l - (c.2.1.length : Int) - c.2.2.length < 0 by omega, decide_false, cond_false, show (c.2.1.length : Int) + c.2.2.length ≤ l by omega]
    · simp only [h', if_false, show (-1 : Int) < 0 by omega, decide_true, cond_true, show ¬ (c.2.1.length : Int) + c.2.2.length ≤ l by omega]
  · simp only [h, if_false, show (-1 : Int) < 0 by omega, decide_true, cond_true, show ¬ (c.2.1.length : Int) + c.2.2.length ≤ l by omega]
theorem toCache_v {N : Nat} {c : Ca} (h1 : c.2.1.length < N) (h2 : c.2.2.length < N) (h3 : c.2.1.length ≤ 5864062014805) (h4 : c.2.2.length ≤ 5864062014805) : F26 N c = some c := by
  unfold F26
  rw [toIntS_v h1 h3, andO_of, toIntS_v h2 h4, andO_of]
theorem eqCache_v {N : Nat} {c e : Ca} (h1 : c.2.1.length < N) (h2 : c.2.2.length < N) (h3 : c.2.1.length ≤ 5864062014805) (h4 : c.2.2.length ≤ 5864062014805) : F27 N c e = some (decide (c = e)) := by
  unfold F27
  obtain ⟨c0, ck, cv⟩ := c
  obtain ⟨e0, ek, ev⟩ := e
  simp only at h1 h2 h3 h4 ⊢
  by_cases g0 : c0 = e0
  · subst g0
    simp only [bne_self_eq_false, cond_false]
    rw [eqIntS_v h1 (by omega), andO_of]
    by_cases g1 : ck = ek
    · subst g1
      simp only [decide_true, Bool.not_true, cond_false]
      rw [eqIntS_v h2 (by omega), andO_of]
      by_cases g2 : cv = ev
      · simp [g2]
      · simp [g2]
    · simp [g1]
  · have : (c0 != e0) = true := by simp [g0]
    simp [this, g0]
end Go.Proofs.YtgpddckjpokclaaDoor.Vc
