/- What the laws' own functions give: whole numbers, lists of them, caches. -/
import Derived.Test.YtgpddckjpokclaaVt
import Derived.Test.YtgpddckjpokclaaPu0
namespace Go.Proofs.Ytgpddckjpokclaa.Vc
open Go Go.RowKit
set_option linter.unusedVariables false
set_option linter.unusedSimpArgs false
theorem eqIntS_l (N : Nat) (a b : List Int) (hl : a.length = b.length) (hs : a.length < 4611686018427387904) : ∀ (d k i : Nat), i + d = a.length → d < k → F32_l0 N a b k (i : Int) = some (decide (a.drop i = b.drop i)) := by
  intro d
  induction d with
  | zero =>
    intro k i h hk
    rw [F32_l0_s _ _ _ (by omega), F32_l0_b]
    simp only [show ¬ (i : Int) < (a.length : Int) by omega, decide_false, cond_false, F32_j0]
    rw [List.drop_eq_nil_of_le (by omega), List.drop_eq_nil_of_le (by omega)]
    rfl
  | succ d ih =>
    intro k i h hk
    have hi : i < a.length := by omega
    have hi' : i < b.length := by omega
    rw [F32_l0_s _ _ _ (by omega), F32_l0_b]
    simp only [show (i : Int) < (a.length : Int) by omega, decide_true, cond_true, gd_true (inR hi), gd_true (inR hi'), Int.toNat_natCast, getD_at hi, getD_at hi']
    rw [w64 (by omega) (by omega), show ((i : Int) + 1) = ((i + 1 : Nat) : Int) by omega, ih (k - 1) (i + 1) (by omega) (by omega)]
    by_cases hx : a[i] = b[i]
    · simp only [hx, bne_self_eq_false, cond_false, drop_eq_iff hi hi', true_and]
    · have : (a[i] != b[i]) = true := by simp [hx]
      simp only [this, cond_true, drop_eq_iff hi hi', hx, false_and, decide_false]

/-- eqIntS. -/
theorem eqIntS_v {N : Nat} {a b : List Int} (hs : a.length < N) (hN : a.length < 4611686018427387904) : F32 N a b = some (decide (a = b)) := by
  unfold F32
  rw [bne_len]
  by_cases hl : a.length = b.length
  · simp only [hl, ne_eq, not_true_eq_false, decide_false, cond_false]
    have := eqIntS_l N a b hl hN a.length N 0 (by omega) hs
    simpa using this
  · have : a ≠ b := fun e => hl (by rw [e])
    simp [hl, this]
/-- The numbers from k on. -/
def upFrom (k : Int) : Nat → List Int
  | 0 => []
  | n + 1 => k :: upFrom (k + 1) n

theorem upFrom_length (k : Int) (n : Nat) : (upFrom k n).length = n := by
  induction n generalizing k with
  | zero => rfl
  | succ n ih => simp [upFrom, ih]

theorem upFrom_at {n : Nat} : ∀ {k : Int} {i : Nat} (h : i < (upFrom k n).length), (upFrom k n)[i] = k + i := by
  induction n with
  | zero => intro k i h; simp [upFrom] at h
  | succ n ih =>
    intro k i h
    cases i with
    | zero => simp [upFrom]
    | succ i =>
      simp only [upFrom, List.getElem_cons_succ]
      rw [ih]
      omega

theorem upFrom_snoc (k : Int) (n : Nat) : upFrom k (n + 1) = upFrom k n ++ [k + n] := by
  induction n generalizing k with
  | zero => simp [upFrom]
  | succ n ih =>
    rw [upFrom, ih (k + 1)]
    simp only [upFrom, List.cons_append, List.cons.injEq, true_and, List.append_cancel_left_eq, and_true]
    omega

theorem set_next (u : List Int) (a : List Int) (i : Nat) (hi : i < a.length) (hu : u.length = i) (v : Int) : (u ++ a.drop i).set i v = u ++ [v] ++ a.drop (i + 1) := by
  subst hu
  rw [List.set_append_right _ _ (Nat.le_refl _), Nat.sub_self, List.drop_eq_getElem_cons hi, List.set_cons_zero, List.append_assoc, List.singleton_append]
theorem markIntS_l (N : Nat) (a : List Int) (m : Int) (hm : 0 ≤ m) (hm2 : m + a.length < 4611686018427387904) : ∀ (d k i : Nat), i + d = a.length → d < k →
    F34_l0 N k (upFrom m i ++ a.drop i) (m + i) (i : Int) = some (upFrom m a.length, m + a.length) := by
  intro d
  induction d with
  | zero =>
    intro k i h hk
    have hi : i = a.length := by omega
    rw [F34_l0_s _ (by omega), F34_l0_b]
    subst hi
    simp only [List.drop_length, List.append_nil, upFrom_length, Int.lt_irrefl, decide_false, cond_false, F34_j0]
  | succ d ih =>
    intro k i h hk
    have hi : i < a.length := by omega
    have hl : (upFrom m i ++ a.drop i).length = a.length := by simp [upFrom_length]; omega
    rw [F34_l0_s _ (by omega), F34_l0_b]
    simp only [hl, show (i : Int) < (a.length : Int) by omega, decide_true, cond_true, gd_true (inR hi), Int.toNat_natCast, gd_true hi]
    rw [w64 (x := m + i + 1) (by omega) (by omega), w64 (x := (i : Int) + 1) (by omega) (by omega), set_next _ _ _ hi (upFrom_length _ _), ← upFrom_snoc, show m + i + 1 = m + ((i + 1 : Nat) : Int) by omega, show ((i : Int) + 1) = ((i + 1 : Nat) : Int) by omega]
    exact ih (k - 1) (i + 1) (by omega) (by omega)

theorem markIntS_v {N : Nat} {a : List Int} {m : Int} (hs : a.length < N) (hm : 0 ≤ m) (hm2 : m + a.length < 4611686018427387904) : F34 N a m = some (upFrom m a.length, m + a.length) := by
  unfold F34
  have := markIntS_l N a m hm hm2 a.length N 0 (by omega) hs
  simpa [upFrom] using this
theorem heldIntS_l (N n : Nat) (m : Int) (hm : 0 ≤ m) (hm2 : m + n < 4611686018427387904) : ∀ (d k i : Nat), i + d = n → d < k → F35_l0 N (upFrom m n) k (m + i) (i : Int) = some (m + n) := by
  intro d
  induction d with
  | zero =>
    intro k i h hk
    have hi : i = n := by omega
    subst hi
    rw [F35_l0_s _ _ (by omega), F35_l0_b]
    simp only [upFrom_length, Int.lt_irrefl, decide_false, cond_false, F35_j0]
  | succ d ih =>
    intro k i h hk
    have hi : i < (upFrom m n).length := by rw [upFrom_length]; omega
    have hi2 : i < n := by omega
    rw [F35_l0_s _ _ (by omega), F35_l0_b]
    simp only [show (i : Int) < ((upFrom m n).length : Int) by omega, decide_true, cond_true, gd_true (inR hi), Int.toNat_natCast, getD_at hi, upFrom_at, bne_self_eq_false, cond_false]
    rw [w64 (x := m + i + 1) (by omega) (by omega), w64 (x := (i : Int) + 1) (by omega) (by omega), show m + i + 1 = m + ((i + 1 : Nat) : Int) by omega, show ((i : Int) + 1) = ((i + 1 : Nat) : Int) by omega]
    exact ih (k - 1) (i + 1) (by omega) (by omega)

theorem heldIntS_v {N n : Nat} {m : Int} (hs : n < N) (hm : 0 ≤ m) (hm2 : m + n < 4611686018427387904) : F35 N (upFrom m n) m = some (m + n) := by
  unfold F35
  have := heldIntS_l N n m hm hm2 n N 0 (by omega) hs
  simpa using this
theorem toIntS_l (N : Nat) (a : List Int) (hs : a.length < 4611686018427387904) : ∀ (d k i : Nat), i + d = a.length → d < k → F143_l0 N a k (a.take i ++ List.replicate (a.length - i) 0) (i : Int) = some a := by
  intro d
  induction d with
  | zero =>
    intro k i h hk
    have hi : i = a.length := by omega
    subst hi
    rw [F143_l0_s _ _ (by omega), F143_l0_b]
    simp [F143_j0]
  | succ d ih =>
    intro k i h hk
    have hi : i < a.length := by omega
    have hl : (a.take i ++ List.replicate (a.length - i) (0 : Int)).length = a.length := by simp; omega
    rw [F143_l0_s _ _ (by omega), F143_l0_b]
    simp only [hl, show (i : Int) < (a.length : Int) by omega, decide_true, cond_true, gd_true (inR hi), Int.toNat_natCast, gd_true hi, getD_at hi]
    rw [w64 (x := (i : Int) + 1) (by omega) (by omega), show ((i : Int) + 1) = ((i + 1 : Nat) : Int) by omega]
    have hset : (a.take i ++ List.replicate (a.length - i) (0 : Int)).set i a[i] = a.take (i + 1) ++ List.replicate (a.length - (i + 1)) 0 := by
      rw [List.set_append_right _ _ (by simp; omega), show (a.length - i) = (a.length - (i + 1)) + 1 by omega, List.replicate_succ]
      have : i - (a.take i).length = 0 := by simp; omega
      rw [this, List.set_cons_zero, List.take_succ_eq_append_getElem hi, List.append_assoc, List.singleton_append]
    rw [hset]
    exact ih (k - 1) (i + 1) (by omega) (by omega)

theorem toIntS_v {N : Nat} {a : List Int} (hs : a.length < N) (hN : a.length ≤ 5864062014805) : F143 N a = some a := by
  unfold F143
  rw [gd_true ⟨by omega, by rw [lim_i64]; omega, rfl⟩]
  have := toIntS_l N a (by omega) a.length N 0 (by omega) hs
  simpa [Ty.dflt] using this
theorem szIntS_v {N : Nat} {a : List Int} {l : Int} (hl : 0 ≤ l) (hl2 : l ≤ 1048576) (hs : a.length ≤ 9223372036854775807) : F142 N a l = some (if (a.length : Int) ≤ l then l - a.length else -1) := by
  unfold F142
  rw [w64 (by omega) (by omega)]
  by_cases h : (a.length : Int) ≤ l
  · simp [h, show ¬ l - (a.length : Int) < 0 by omega]
  · simp [h, show l - (a.length : Int) < 0 by omega]
abbrev Ca := Int × (List Int × List Int)
end Go.Proofs.Ytgpddckjpokclaa.Vc
