/- Caches: what the program's functions and the reference's give. -/
import Derived.Test.YtcipgfjhodgncaaPuL
namespace Go.Proofs.Ytcipgfjhodgncaa.Vc
open Go Go.RowKit
set_option linter.unusedVariables false
set_option linter.unusedSimpArgs false
theorem l01In_v (N : Nat) (x a b : Int) : F48 N x a b = some (decide (a ≤ x ∧ x ≤ b)) := by
  unfold F48
  by_cases h : a ≤ x <;> simp [h]
theorem in_v (N : Nat) (x a b : Int) : F70 N x a b = some (decide (a ≤ x ∧ x ≤ b)) := by
  unfold F70
  by_cases h : x ≥ a <;> simp [h]
/-- A number that the program takes. -/
abbrev Num (x : Int) : Prop := -1000000 ≤ x ∧ x ≤ 1000000
theorem l01Number_v (N : Nat) (x : Int) : F51 N x = some (decide (Num x)) := by
  unfold F51
  rw [l01In_v, andO_of]
theorem isNum_v (N : Nat) (x : Int) : F53 N x = some (decide (Num x)) := by
  unfold F53
  rw [in_v, andO_of]
theorem isCap_v (N : Nat) (x : Int) : F49 N x = some (decide (1 ≤ x ∧ x ≤ 16)) := by
  unfold F49
  rw [in_v, andO_of]
/-- The place of a number in a list, from place i on; -1 if there is none. -/
def idxF (x : Int) : List Int → Nat → Int
  | [], _ => -1
  | y :: l, i => if y = x then (i : Int) else idxF x l (i + 1)

theorem idxF_lt (x : Int) : ∀ (l : List Int) (i : Nat), idxF x l i = -1 ∨ ∃ j, j < l.length ∧ idxF x l i = ((i + j : Nat) : Int) ∧ l[j]? = some x
  | [], i => .inl rfl
  | y :: l, i => by
    simp only [idxF]
    by_cases h : y = x
    · rw [if_pos h]
      exact .inr ⟨0, by simp, rfl, by simp [h]⟩
    · rw [if_neg h]
      rcases idxF_lt x l (i + 1) with h1 | ⟨j, h1, h2, h3⟩
      · exact .inl h1
      · exact .inr ⟨j + 1, by simp; omega, by rw [h2]; omega, by simpa using h3⟩

theorem idxF_none {x : Int} : ∀ {l : List Int} {i : Nat}, idxF x l i = -1 ↔ x ∉ l
  | [], i => by simp [idxF]
  | y :: l, i => by
    simp only [idxF, List.mem_cons, not_or]
    by_cases h : y = x
    · rw [if_pos h]
      constructor
      · intro e; omega
      · intro e; exact absurd h.symm e.1
    · rw [if_neg h, idxF_none]
      exact ⟨fun e => ⟨fun e' => h e'.symm, e⟩, fun e => e.2⟩

abbrev idx (x : Int) (l : List Int) : Int := idxF x l 0
theorem index_l (N : Nat) (a : List Int) (x : Int) (hs : a.length < 4611686018427387904) : ∀ (d k i : Nat), i + d = a.length → d < k → F54_l0 N a x k (a.length : Int) (i : Int) = some (idxF x (a.drop i) i) := by
  intro d
  induction d with
  | zero =>
    intro k i h hk
    have hi : i = a.length := by omega
    subst hi
    rw [F54_l0_s _ _ _ (by omega), F54_l0_b]
    simp [F54_j0, idxF]
  | succ d ih =>
    intro k i h hk
    have hi : i < a.length := by omega
    rw [F54_l0_s _ _ _ (by omega), F54_l0_b]
    simp only [show (i : Int) < (a.length : Int) by omega, decide_true, cond_true, gd_true (inR hi), Int.toNat_natCast, getD_at hi]
    rw [w64 (by omega) (by omega), show ((i : Int) + 1) = ((i + 1 : Nat) : Int) by omega, ih (k - 1) (i + 1) (by omega) (by omega), List.drop_eq_getElem_cons hi]
    simp only [idxF]
    by_cases hx : a[i] = x
    · have : (x == a[i]) = true := by simp [hx]
      simp only [this, cond_true, if_pos hx]
    · have : (x == a[i]) = false := by simpa using fun e : x = a[i] => hx e.symm
      simp only [this, cond_false, if_neg hx]

theorem index_v {N : Nat} {a : List Int} {x : Int} (hs : a.length < N) (hN : a.length < 4611686018427387904) : F54 N a x = some (idx x a) := by
  unfold F54
  have := index_l N a x hN a.length N 0 (by omega) hs
  simpa using this
theorem l01Has_l (N : Nat) (a : List Int) (x : Int) (hs : a.length < 4611686018427387904) : ∀ (d k i : Nat), i + d = a.length → d < k → F52_l0 N a x k (i : Int) = some (decide (x ∈ a.drop i)) := by
  intro d
  induction d with
  | zero =>
    intro k i h hk
    have hi : i = a.length := by omega
    subst hi
    rw [F52_l0_s _ _ _ (by omega), F52_l0_b]
    simp [F52_j0]
  | succ d ih =>
    intro k i h hk
    have hi : i < a.length := by omega
    rw [F52_l0_s _ _ _ (by omega), F52_l0_b]
    simp only [show (i : Int) < (a.length : Int) by omega, decide_true, cond_true, gd_true (inR hi), Int.toNat_natCast, getD_at hi]
    rw [w64 (by omega) (by omega), show ((i : Int) + 1) = ((i + 1 : Nat) : Int) by omega, ih (k - 1) (i + 1) (by omega) (by omega), List.drop_eq_getElem_cons hi]
    by_cases hx : a[i] = x
    · have : (a[i] == x) = true := by simp [hx]
      rw [this, cond_true]
      simp [hx]
    · have : (a[i] == x) = false := by simp [hx]
      simp only [this, cond_false, List.mem_cons, fun e : x = a[i] => hx e.symm, false_or]
      have h2 : ¬ x = a[i] := fun e => hx e.symm
      simp only [h2, false_or]

theorem l01Has_v {N : Nat} {a : List Int} {x : Int} (hs : a.length < N) (hN : a.length < 4611686018427387904) : F52 N a x = some (decide (x ∈ a)) := by
  unfold F52
  have := l01Has_l N a x hN a.length N 0 (by omega) hs
  simpa using this
/-- The keys and values from place i on are right. -/
def okL (ks vs : List Int) : Nat → Nat → Bool
  | 0, _ => true
  | d + 1, i => decide (Num (ks.getD i 0)) && decide (Num (vs.getD i 0)) && !decide (ks.getD i 0 ∈ ks.take i) && okL ks vs d (i + 1)

def okC (c : Ca) : Bool := decide (1 ≤ c.1 ∧ c.1 ≤ 16) && !decide ((c.2.1.length : Int) > c.1) && decide (c.2.2.length = c.2.1.length) && okL c.2.1 c.2.2 c.2.1.length 0

theorem idx_ne {ks : List Int} {i : Nat} (hi : i < ks.length) : (idx ks[i] ks != (i : Int)) = decide (ks[i] ∈ ks.take i) := by
  have key : ∀ (x : Int) (l : List Int) (j i : Nat) (h : i < l.length), l[i] = x → (idxF x l j != ((j + i : Nat) : Int)) = decide (x ∈ l.take i) := by
    intro x l
    induction l with
    | nil => intro j i h; simp at h
    | cons y l ih =>
      intro j i h hx
      cases i with
      | zero =>
        simp only [List.getElem_cons_zero] at hx
        subst hx
        simp [idxF]
      | succ i =>
        simp only [List.getElem_cons_succ] at hx
        simp only [idxF, List.take_succ_cons, List.mem_cons]
        by_cases hy : y = x
        · subst hy
          rw [if_pos rfl]
          have : ((j : Int) != ((j + (i + 1) : Nat) : Int)) = true := by
            have : (j : Int) ≠ ((j + (i + 1) : Nat) : Int) := by omega
            simpa using this
          rw [this]
          simp
        · rw [if_neg hy, show j + (i + 1) = j + 1 + i by omega, ih (j + 1) i (by simpa using h) hx]
          have h2 : ¬ x = y := fun e => hy e.symm
          simp only [h2, false_or]
  have := key ks[i] ks 0 i hi rfl
  simpa using this
theorem sCacheOk_l (N : Nat) (c0 : Int) (ks vs : List Int) (hv : vs.length = ks.length) (hN : ks.length < N) (hs : ks.length < 4611686018427387904) : ∀ (d k i : Nat), i + d = ks.length → d < k → F20_l0 N k c0 ks vs (i : Int) = some (okL ks vs d i) := by
  intro d
  induction d with
  | zero =>
    intro k i h hk
    have hi : i = ks.length := by omega
    subst hi
    rw [F20_l0_s _ (by omega), F20_l0_b]
    simp [F20_j0, okL]
  | succ d ih =>
    intro k i h hk
    have hi : i < ks.length := by omega
    have hi' : i < vs.length := by omega
    have ht : (ks.take i).length ≤ ks.length := by simp; omega
    rw [F20_l0_s _ (by omega), F20_l0_b]
    simp only [show (i : Int) < (ks.length : Int) by omega, decide_true, cond_true, gd_true (inR hi), gd_true (inR hi'), Int.toNat_natCast, l01Number_v, andO_of, okL, Ty.dflt]
    rw [gd_true ⟨by omega, by omega⟩, l01Has_v (by omega) (by omega), andO_of, w64 (by omega) (by omega), show ((i : Int) + 1) = ((i + 1 : Nat) : Int) by omega, ih (k - 1) (i + 1) (by omega) (by omega)]
    generalize decide (Num (ks.getD i 0)) = b1
    generalize decide (Num (vs.getD i 0)) = b2
    generalize decide (ks.getD i 0 ∈ ks.take i) = b3
    cases b1 <;> cases b2 <;> cases b3 <;> rfl

theorem sCacheOk_v {N : Nat} {c : Ca} (h1 : c.2.1.length < N) (h2 : c.2.1.length < 4611686018427387904) : F20 N c = some (okC c) := by
  unfold F20 okC
  rw [l01In_v, andO_of, bne_len]
  by_cases g3 : c.2.2.length = c.2.1.length
  rotate_left
  · generalize decide (1 ≤ c.1 ∧ c.1 ≤ 16) = b1
    generalize decide ((c.2.1.length : Int) > c.1) = b2
    simp only [ne_eq, g3, not_false_eq_true, decide_true, decide_false, Bool.and_false, Bool.false_and]
    cases b1 <;> cases b2 <;> rfl
  simp only [ne_eq, g3, not_true_eq_false, decide_false, decide_true, Bool.and_true, cond_false]
  have := sCacheOk_l N c.1 c.2.1 c.2.2 g3 h1 h2 c.2.1.length N 0 (by omega) h1
  simp only [Int.natCast_zero] at this
  rw [this]
  generalize decide (1 ≤ c.1 ∧ c.1 ≤ 16) = b1
  generalize decide ((c.2.1.length : Int) > c.1) = b2
  cases b1 <;> cases b2 <;> rfl
theorem iCacheOk_l (N : Nat) (c0 : Int) (ks vs : List Int) (hv : vs.length = ks.length) (hN : ks.length < N) (hs : ks.length < 4611686018427387904) : ∀ (d k i : Nat), i + d = ks.length → d < k → F22_l0 N k c0 ks vs ks (ks.length : Int) (i : Int) = some (okL ks vs d i) := by
  intro d
  induction d with
  | zero =>
    intro k i h hk
    have hi : i = ks.length := by omega
    subst hi
    rw [F22_l0_s _ (by omega), F22_l0_b]
    simp [F22_j0, okL]
  | succ d ih =>
    intro k i h hk
    have hi : i < ks.length := by omega
    have hi' : i < vs.length := by omega
    rw [F22_l0_s _ (by omega), F22_l0_b]
    simp only [show (i : Int) < (ks.length : Int) by omega, decide_true, cond_true, gd_true (inR hi), gd_true (inR hi'), Int.toNat_natCast, isNum_v, andO_of, okL, Ty.dflt]
    rw [index_v hN hs, andO_of, w64 (by omega) (by omega), show ((i : Int) + 1) = ((i + 1 : Nat) : Int) by omega, ih (k - 1) (i + 1) (by omega) (by omega)]
    rw [getD_at hi, idx_ne hi]
    generalize decide (Num ks[i]) = b1
    generalize decide (Num (vs.getD i 0)) = b2
    generalize decide (ks[i] ∈ ks.take i) = b3
    cases b1 <;> cases b2 <;> cases b3 <;> rfl

theorem iCacheOk_v {N : Nat} {c : Ca} (h1 : c.2.1.length < N) (h2 : c.2.1.length < 4611686018427387904) : F22 N c = some (okC c) := by
  unfold F22 okC
  rw [isCap_v, andO_of, bne_len]
  by_cases g3 : c.2.2.length = c.2.1.length
  rotate_left
  · generalize decide (1 ≤ c.1 ∧ c.1 ≤ 16) = b1
    generalize decide ((c.2.1.length : Int) > c.1) = b2
    simp only [ne_eq, g3, not_false_eq_true, decide_true, decide_false, Bool.and_false, Bool.false_and]
    cases b1 <;> cases b2 <;> rfl
  simp only [ne_eq, g3, not_true_eq_false, decide_false, decide_true, Bool.and_true, cond_false]
  have := iCacheOk_l N c.1 c.2.1 c.2.2 g3 h1 h2 c.2.1.length N 0 (by omega) h1
  simp only [Int.natCast_zero] at this
  rw [this]
  generalize decide (1 ≤ c.1 ∧ c.1 ≤ 16) = b1
  generalize decide ((c.2.1.length : Int) > c.1) = b2
  cases b1 <;> cases b2 <;> rfl
/-- What a law lets in. -/
theorem wfCa {c : Ca} (h : (Ty.pair (.int .i64) (.pair (.sl (.int .i64)) (.sl (.int .i64)))).wf c) : c.2.1.length ≤ 9223372036854775807 ∧ c.2.2.length ≤ 9223372036854775807 := by
  obtain ⟨_, ⟨h1, _⟩, ⟨h2, _⟩⟩ := h
  exact ⟨h1, h2⟩
end Go.Proofs.Ytcipgfjhodgncaa.Vc
