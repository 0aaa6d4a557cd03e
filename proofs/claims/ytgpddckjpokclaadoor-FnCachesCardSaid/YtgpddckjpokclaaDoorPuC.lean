/- Caches: what the program's functions and the reference's give. -/
import Derived.Test.YtgpddckjpokclaaDoorPuL
namespace Go.Proofs.YtgpddckjpokclaaDoor.Vc
open Go Go.RowKit
set_option linter.unusedVariables false
set_option linter.unusedSimpArgs false
theorem l01In_v (N : Nat) (x a b : Int) : F54 N x a b = some (decide (a ≤ x ∧ x ≤ b)) := by
  unfold F54
  by_cases h : a ≤ x <;> simp [h]
theorem in_v (N : Nat) (x a b : Int) : F67 N x a b = some (decide (a ≤ x ∧ x ≤ b)) := by
  unfold F67
  by_cases h : x ≥ a <;> simp [h]
/-- A number that the program takes. -/
def Num (x : Int) : Prop := -1000000 ≤ x ∧ x ≤ 1000000

instance (x : Int) : Decidable (Num x) := inferInstanceAs (Decidable (-1000000 ≤ x ∧ x ≤ 1000000))
theorem l01Number_v (N : Nat) (x : Int) : F59 N x = some (decide (Num x)) := by
  unfold F59
  rw [l01In_v, andO_of]
  rfl
theorem isNum_v (N : Nat) (x : Int) : F47 N x = some (decide (Num x)) := by
  unfold F47
  rw [in_v, andO_of]
  rfl
theorem isCap_v (N : Nat) (x : Int) : F46 N x = some (decide (1 ≤ x ∧ x ≤ 16)) := by
  unfold F46
  rw [in_v, andO_of]
/-- The place of a number in a list, from place i on; -1 if there is none. -/
def idxF (x : Int) : List Int → Nat → Int
  | [], _ => -1
  | y :: l, i => if y = x then (i : Int) else idxF x l (i + 1)

theorem idxF_lt (x : Int) : ∀ (l : List Int) (i : Nat), idxF x l i = -1 ∨ ∃ j, j < l.length ∧ idxF x l i = ((i + j : Nat) : Int) ∧ l[j]? = some x
  | [], i => .inl rfl
  | y :: l, i => by
    simp only [idxF]
    by_cases h : y = x
    · rw [if_pos h]
      exact .inr ⟨0, by simp, rfl, by simp [h]⟩
    · rw [if_neg h]
      rcases idxF_lt x l (i + 1) with h1 | ⟨j, h1, h2, h3⟩
      · exact .inl h1
      · exact .inr ⟨j + 1, by simp; omega, by rw [h2]; omega, by simpa using h3⟩

theorem idxF_none {x : Int} : ∀ {l : List Int} {i : Nat}, idxF x l i = -1 ↔ x ∉ l
  | [], i => by simp [idxF]
  | y :: l, i => by
    simp only [idxF, List.mem_cons, not_or]
    by_cases h : y = x
    · rw [if_pos h]
      constructor
      · intro e; omega
      · intro e; exact absurd h.symm e.1
    · rw [if_neg h, idxF_none]
      exact ⟨fun e => ⟨fun e' => h e'.symm, e⟩, fun e => e.2⟩

abbrev idx (x : Int) (l : List Int) : Int := idxF x l 0
theorem index_l (N : Nat) (a : List Int) (x : Int) (hs : a.length < 4611686018427387904) : ∀ (d k i : Nat), i + d = a.length → d < k → F48_l0 N a x k (a.length : Int) (i : Int) = some (idxF x (a.drop i) i) := by
  intro d
  induction d with
  | zero =>
    intro k i h hk
    have hi : i = a.length := by omega
    subst hi
    rw [F48_l0_s _ _ _ (by omega), F48_l0_b]
    simp [F48_j0, idxF]
  | succ d ih =>
    intro k i h hk
    have hi : i < a.length := by omega
    rw [F48_l0_s _ _ _ (by omega), F48_l0_b]
    simp only [show (i : Int) < (a.length : Int) by omega, decide_true, cond_true, gd_true (inR hi), Int.toNat_natCast, getD_at hi]
    rw [w64 (by omega) (by omega), show ((i : Int) + 1) = ((i + 1 : Nat) : Int) by omega, ih (k - 1) (i + 1) (by omega) (by omega), List.drop_eq_getElem_cons hi]
    simp only [idxF]
    by_cases hx : a[i] = x
    · have : (x == a[i]) = true := by simp [hx]
      simp only [this, cond_true, if_pos hx]
    · have : (x == a[i]) = false := by simpa using fun e : x = a[i] => hx e.symm
      simp only [this, cond_false, if_neg hx]

theorem index_v {N : Nat} {a : List Int} {x : Int} (hs : a.length < N) (hN : a.length < 4611686018427387904) : F48 N a x = some (idx x a) := by
  unfold F48
  have := index_l N a x hN a.length N 0 (by omega) hs
  simpa using this
theorem l09At_l (N : Nat) (c0 : Int) (a vs : List Int) (x : Int) (hs : a.length < 4611686018427387904) : ∀ (d k i : Nat), i + d = a.length → d < k → F55_l0 N x k c0 a vs (i : Int) = some (idxF x (a.drop i) i) := by
  intro d
  induction d with
  | zero =>
    intro k i h hk
    have hi : i = a.length := by omega
    subst hi
    rw [F55_l0_s _ _ (by omega), F55_l0_b]
    simp [F55_j0, idxF]
  | succ d ih =>
    intro k i h hk
    have hi : i < a.length := by omega
    rw [F55_l0_s _ _ (by omega), F55_l0_b]
    simp only [show (i : Int) < (a.length : Int) by omega, decide_true, cond_true, gd_true (inR hi), Int.toNat_natCast, getD_at hi]
    rw [w64 (by omega) (by omega), show ((i : Int) + 1) = ((i + 1 : Nat) : Int) by omega, ih (k - 1) (i + 1) (by omega) (by omega), List.drop_eq_getElem_cons hi]
    simp only [idxF]
    by_cases hx : a[i] = x
    · have : (a[i] == x) = true := by simp [hx]
      simp only [this, cond_true, if_pos hx]
    · have : (a[i] == x) = false := by simp [hx]
      simp only [this, cond_false, if_neg hx]

theorem l09At_v {N : Nat} {c : Ca} {x : Int} (hs : c.2.1.length < N) (hN : c.2.1.length < 4611686018427387904) : F55 N c x = some (idx x c.2.1) := by
  unfold F55
  have := l09At_l N c.1 c.2.1 c.2.2 x hN c.2.1.length N 0 (by omega) hs
  simpa using this
theorem l01Has_l (N : Nat) (a : List Int) (x : Int) (hs : a.length < 4611686018427387904) : ∀ (d k i : Nat), i + d = a.length → d < k → F66_l0 N a x k (i : Int) = some (decide (x ∈ a.drop i)) := by
  intro d
  induction d with
  | zero =>
    intro k i h hk
    have hi : i = a.length := by omega
    subst hi
    rw [F66_l0_s _ _ _ (by omega), F66_l0_b]
    simp [F66_j0]
  | succ d ih =>
    intro k i h hk
    have hi : i < a.length := by omega
    rw [F66_l0_s _ _ _ (by omega), F66_l0_b]
    simp only [show (i : Int) < (a.length : Int) by omega, decide_true, cond_true, gd_true (inR hi), Int.toNat_natCast, getD_at hi]
    rw [w64 (by omega) (by omega), show ((i : Int) + 1) = ((i + 1 : Nat) : Int) by omega, ih (k - 1) (i + 1) (by omega) (by omega), List.drop_eq_getElem_cons hi]
    by_cases hx : a[i] = x
    · have : (a[i] == x) = true := by simp [hx]
      rw [this, cond_true]
      simp [hx]
    · have : (a[i] == x) = false := by simp [hx]
      simp only [this, cond_false, List.mem_cons, fun e : x = a[i] => hx e.symm, false_or]
      have h2 : ¬ x = a[i] := fun e => hx e.symm
      simp only [h2, false_or]

theorem l01Has_v {N : Nat} {a : List Int} {x : Int} (hs : a.length < N) (hN : a.length < 4611686018427387904) : F66 N a x = some (decide (x ∈ a)) := by
  unfold F66
  have := l01Has_l N a x hN a.length N 0 (by omega) hs
  simpa using this
/-- The keys and values from place i on are right. -/
def okL (ks vs : List Int) : Nat → Nat → Bool
  | 0, _ => true
  | d + 1, i => decide (Num (ks.getD i 0)) && decide (Num (vs.getD i 0)) && !decide (ks.getD i 0 ∈ ks.take i) && okL ks vs d (i + 1)

def okC (c : Ca) : Bool := decide (1 ≤ c.1 ∧ c.1 ≤ 16) && !decide ((c.2.1.length : Int) > c.1) && decide (c.2.2.length = c.2.1.length) && okL c.2.1 c.2.2 c.2.1.length 0

theorem idx_ne {ks : List Int} {i : Nat} (hi : i < ks.length) : (idx ks[i] ks != (i : Int)) = decide (ks[i] ∈ ks.take i) := by
  have key : ∀ (x : Int) (l : List Int) (j i : Nat) (h : i < l.length), l[i] = x → (idxF x l j != ((j + i : Nat) : Int)) = decide (x ∈ l.take i) := by
    intro x l
    induction l with
    | nil => intro j i h; simp at h
    | cons y l ih =>
      intro j i h hx
      cases i with
      | zero =>
        simp only [List.getElem_cons_zero] at hx
        subst hx
        simp [idxF]
      | succ i =>
        simp only [List.getElem_cons_succ] at hx
        simp only [idxF, List.take_succ_cons, List.mem_cons]
        by_cases hy : y = x
        · subst hy
          rw [if_pos rfl]
          have : ((j : Int) != ((j + (i + 1) : Nat) : Int)) = true := by
            have : (j : Int) ≠ ((j + (i + 1) : Nat) : Int) := by omega
            simpa using this
          rw [this]
          simp
        · rw [if_neg hy, show j + (i + 1) = j + 1 + i by omega, ih (j + 1) i (by simpa using h) hx]
          have h2 : ¬ x = y := fun e => hy e.symm
          simp only [h2, false_or]
  have := key ks[i] ks 0 i hi rfl
  simpa using this
theorem sCacheOk_l (N : Nat) (c0 : Int) (ks vs : List Int) (hv : vs.length = ks.length) (hN : ks.length < N) (hs : ks.length < 4611686018427387904) : ∀ (d k i : Nat), i + d = ks.length → d < k → F44_l0 N k c0 ks vs (i : Int) = some (okL ks vs d i) := by
  intro d
  induction d with
  | zero =>
    intro k i h hk
    have hi : i = ks.length := by omega
    subst hi
    rw [F44_l0_s _ (by omega), F44_l0_b]
    simp [F44_j0, okL]
  | succ d ih =>
    intro k i h hk
    have hi : i < ks.length := by omega
    have hi' : i < vs.length := by omega
    have ht : (ks.take i).length ≤ ks.length := by simp; omega
    rw [F44_l0_s _ (by omega), F44_l0_b]
    simp only [show (i : Int) < (ks.length : Int) by omega, decide_true, cond_true, gd_true (inR hi), gd_true (inR hi'), Int.toNat_natCast, l01Number_v, andO_of, okL, Ty.dflt]
    rw [gd_true ⟨by omega, by omega⟩, l01Has_v (by omega) (by omega), andO_of, w64 (by omega) (by omega), show ((i : Int) + 1) = ((i + 1 : Nat) : Int) by omega, ih (k - 1) (i + 1) (by omega) (by omega)]
    generalize decide (Num (ks.getD i 0)) = b1
    generalize decide (Num (vs.getD i 0)) = b2
    generalize decide (ks.getD i 0 ∈ ks.take i) = b3
    cases b1 <;> cases b2 <;> cases b3 <;> rfl

theorem sCacheOk_v {N : Nat} {c : Ca} (h1 : c.2.1.length < N) (h2 : c.2.1.length < 4611686018427387904) : F44 N c = some (okC c) := by
  unfold F44 okC
  rw [l01In_v, andO_of, bne_len]
  by_cases g3 : c.2.2.length = c.2.1.length
  rotate_left
  · generalize decide (1 ≤ c.1 ∧ c.1 ≤ 16) = b1
    generalize decide ((c.2.1.length : Int) > c.1) = b2
    simp only [ne_eq, g3, not_false_eq_true, decide_true, decide_false, Bool.and_false, Bool.false_and]
    cases b1 <;> cases b2 <;> rfl
  simp only [ne_eq, g3, not_true_eq_false, decide_false, decide_true, Bool.and_true, cond_false]
  have := sCacheOk_l N c.1 c.2.1 c.2.2 g3 h1 h2 c.2.1.length N 0 (by omega) h1
  simp only [Int.natCast_zero] at this
  rw [this]
  generalize decide (1 ≤ c.1 ∧ c.1 ≤ 16) = b1
  generalize decide ((c.2.1.length : Int) > c.1) = b2
  cases b1 <;> cases b2 <;> rfl
theorem iCacheOk_l (N : Nat) (c0 : Int) (ks vs : List Int) (hv : vs.length = ks.length) (hN : ks.length < N) (hs : ks.length < 4611686018427387904) : ∀ (d k i : Nat), i + d = ks.length → d < k → F15_l0 N k c0 ks vs ks (ks.length : Int) (i : Int) = some (okL ks vs d i) := by
  intro d
  induction d with
  | zero =>
    intro k i h hk
    have hi : i = ks.length := by omega
    subst hi
    rw [F15_l0_s _ (by omega), F15_l0_b]
    simp [F15_j0, okL]
  | succ d ih =>
    intro k i h hk
    have hi : i < ks.length := by omega
    have hi' : i < vs.length := by omega
    rw [F15_l0_s _ (by omega), F15_l0_b]
    simp only [show (i : Int) < (ks.length : Int) by omega, decide_true, cond_true, gd_true (inR hi), gd_true (inR hi'), Int.toNat_natCast, isNum_v, andO_of, okL, Ty.dflt]
    rw [index_v hN hs, andO_of, w64 (by omega) (by omega), show ((i : Int) + 1) = ((i + 1 : Nat) : Int) by omega, ih (k - 1) (i + 1) (by omega) (by omega)]
    rw [getD_at hi, idx_ne hi]
    generalize decide (Num ks[i]) = b1
    generalize decide (Num (vs.getD i 0)) = b2
    generalize decide (ks[i] ∈ ks.take i) = b3
    cases b1 <;> cases b2 <;> cases b3 <;> rfl

theorem iCacheOk_v {N : Nat} {c : Ca} (h1 : c.2.1.length < N) (h2 : c.2.1.length < 4611686018427387904) : F15 N c = some (okC c) := by
  unfold F15 okC
  rw [isCap_v, andO_of, bne_len]
  by_cases g3 : c.2.2.length = c.2.1.length
  rotate_left
  · generalize decide (1 ≤ c.1 ∧ c.1 ≤ 16) = b1
    generalize decide ((c.2.1.length : Int) > c.1) = b2
    simp only [ne_eq, g3, not_false_eq_true, decide_true, decide_false, Bool.and_false, Bool.false_and]
    cases b1 <;> cases b2 <;> rfl
  simp only [ne_eq, g3, not_true_eq_false, decide_false, decide_true, Bool.and_true, cond_false]
  have := iCacheOk_l N c.1 c.2.1 c.2.2 g3 h1 h2 c.2.1.length N 0 (by omega) h1
  simp only [Int.natCast_zero] at this
  rw [this]
  generalize decide (1 ≤ c.1 ∧ c.1 ≤ 16) = b1
  generalize decide ((c.2.1.length : Int) > c.1) = b2
  cases b1 <;> cases b2 <;> rfl
theorem l01Copy_l (N : Nat) (a : List Int) (hs : a.length ≤ 5864062014805) : ∀ (d k i : Nat), i + d = a.length → d < k → F68_l0 N a k (a.take i) (i : Int) = some a := by
  intro d
  induction d with
  | zero =>
    intro k i h hk
    have hi : i = a.length := by omega
    subst hi
    rw [F68_l0_s _ _ (by omega), F68_l0_b]
    simp [F68_j0]
  | succ d ih =>
    intro k i h hk
    have hi : i < a.length := by omega
    have hl : (a.take i).length = i := by simp; omega
    rw [F68_l0_s _ _ (by omega), F68_l0_b]
    simp only [show (i : Int) < (a.length : Int) by omega, decide_true, cond_true, gd_true (inR hi), Int.toNat_natCast, getD_at hi]
    rw [gd_true (by rw [lim_i64, hl, List.length_singleton]; omega), w64 (by omega) (by omega), show ((i : Int) + 1) = ((i + 1 : Nat) : Int) by omega, ← List.take_succ_eq_append_getElem hi]
    exact ih (k - 1) (i + 1) (by omega) (by omega)

theorem l01Copy_v {N : Nat} {a : List Int} (hs : a.length < N) (hN : a.length ≤ 5864062014805) : F68 N a = some a := by
  unfold F68
  have := l01Copy_l N a hN a.length N 0 (by omega) hs
  simpa using this
theorem clone_v {N : Nat} {a : List Int} (hN : a.length ≤ 5864062014805) : F69 N a = some a := by
  unfold F69
  rw [gd_true (by rw [lim_i64]; exact hN)]
theorem l09Copy_v {N : Nat} {c : Ca} (h1 : c.2.1.length < N) (h2 : c.2.2.length < N) (h3 : c.2.1.length ≤ 5864062014805) (h4 : c.2.2.length ≤ 5864062014805) : F56 N c = some c := by
  unfold F56
  rw [l01Copy_v h1 h3, andO_of, l01Copy_v h2 h4, andO_of]
theorem ownCache_v {N : Nat} {c : Ca} (h3 : c.2.1.length ≤ 5864062014805) (h4 : c.2.2.length ≤ 5864062014805) : F61 N c = some c := by
  unfold F61
  rw [clone_v h3, andO_of, clone_v h4, andO_of]
/-- A list without what stands at a place. -/
def rmv (at_ : Int) (xs : List Int) : List Int := if at_ < 0 then xs else xs.take at_.toNat ++ xs.drop (at_.toNat + 1)

theorem rmv_length (at_ : Int) (xs : List Int) : (rmv at_ xs).length ≤ xs.length := by
  unfold rmv
  split
  · exact Nat.le_refl _
  · simp; omega

theorem rmv_len {at_ : Int} {xs : List Int} (h0 : 0 ≤ at_) (h : at_ < xs.length) : (rmv at_ xs).length = xs.length - 1 := by
  unfold rmv
  rw [if_neg (by omega)]
  simp
  omega
theorem delete_v {N i : Nat} {a : List Int} (hi : i < a.length) (hN : a.length ≤ 5864062014805) : F70 N a (i : Int) ((i + 1 : Nat) : Int) = some (rmv i a) := by
  unfold F70 rmv
  have hl : ((a.drop (i + 1)).take (a.length - (i + 1))).length = a.length - (i + 1) := by simp
  have ht : (a.drop (i + 1)).take (a.length - (i + 1)) = a.drop (i + 1) := List.take_of_length_le (by simp)
  have hne : ((i : Int) == ((i + 1 : Nat) : Int)) = false := by
    have : (i : Int) ≠ ((i + 1 : Nat) : Int) := by omega
    simpa using this
  simp only [Int.toNat_natCast, ht, List.length_drop]
  rw [gd_true ⟨by omega, by omega, by omega, by omega⟩, hne, cond_false, gd_true ⟨by omega, by omega⟩, gd_true ⟨by omega, by omega⟩, gd_true ⟨by omega, by rw [lim_i64]; exact hN⟩]
  have hlen : (a.take i ++ a.drop (i + 1) ++ a.drop (i + (a.length - (i + 1)))).length = a.length := by simp; omega
  rw [hlen, gd_true ⟨by omega, by omega, by omega⟩, if_neg (by omega)]
  congr 1
  have e1 : ((((i + (a.length - (i + 1)) : Nat)) : Int)).toNat = i + (a.length - (i + 1)) := by omega
  have e2 : (a.take i ++ a.drop (i + 1)).length = i + (a.length - (i + 1)) := by simp; omega
  simp only [Nat.zero_add]
  have e3 : ((i : Int) + ((a.length - (i + 1) : Nat) : Int)).toNat = i + (a.length - (i + 1)) := by omega
  simp only [e3]
  rw [List.append_assoc _ (List.replicate _ _) _, List.take_append_of_le_length (by simp only [List.length_take, List.length_append, List.length_drop]; omega), List.take_take, Nat.min_self]
  rw [List.take_append_of_le_length (by rw [e2]; exact Nat.le_refl _), List.take_of_length_le (by rw [e2]; exact Nat.le_refl _)]
theorem without_v {N : Nat} {c : Ca} {at_ : Int} (h0 : 0 ≤ at_) (h1 : at_ < c.2.1.length) (h2 : at_ < c.2.2.length) (h3 : c.2.1.length ≤ 5864062014805) (h4 : c.2.2.length ≤ 5864062014805) :
    F62 N c at_ = some (c.1, (rmv at_ c.2.1, rmv at_ c.2.2)) := by
  unfold F62
  obtain ⟨i, rfl⟩ : ∃ i : Nat, at_ = (i : Int) := ⟨at_.toNat, by omega⟩
  rw [ownCache_v h3 h4, andO_of, w64 (by omega) (by omega), show ((i : Int) + 1) = ((i + 1 : Nat) : Int) by omega, delete_v (by omega) h3, andO_of, delete_v (by omega) h4, andO_of]
theorem rmv_take {at_ : Int} {xs : List Int} {i : Nat} (hi : i < xs.length) (hne : (i : Int) ≠ at_) : rmv at_ (xs.take i) ++ [xs[i]] = rmv at_ (xs.take (i + 1)) := by
  unfold rmv
  by_cases h : at_ < 0
  · rw [if_pos h, if_pos h, List.take_succ_eq_append_getElem hi]
  · rw [if_neg h, if_neg h, List.take_succ_eq_append_getElem hi]
    by_cases h2 : at_.toNat < i
    · rw [List.take_append_of_le_length (by simp; omega), List.drop_append_of_le_length (by simp; omega), List.append_assoc]
    · have h3 : i < at_.toNat := by omega
      have e1 : (xs.take i).take at_.toNat = xs.take i := List.take_of_length_le (by simp; omega)
      have e2 : (xs.take i).drop (at_.toNat + 1) = [] := List.drop_eq_nil_of_le (by simp; omega)
      have e3 : (xs.take i ++ [xs[i]]).take at_.toNat = xs.take i ++ [xs[i]] := List.take_of_length_le (by simp; omega)
      have e4 : (xs.take i ++ [xs[i]]).drop (at_.toNat + 1) = [] := List.drop_eq_nil_of_le (by simp; omega)
      rw [e1, e2, e3, e4]
      simp

theorem rmv_take_at {xs : List Int} {i : Nat} (hi : i < xs.length) : rmv (i : Int) (xs.take i) = rmv (i : Int) (xs.take (i + 1)) := by
  unfold rmv
  rw [if_neg (by omega), if_neg (by omega), List.take_succ_eq_append_getElem hi]
  simp only [Int.toNat_natCast]
  have e1 : (xs.take i).take i = xs.take i := List.take_of_length_le (by simp; omega)
  have e2 : (xs.take i).drop (i + 1) = [] := List.drop_eq_nil_of_le (by simp; omega)
  have e3 : (xs.take i ++ [xs[i]]).drop (i + 1) = [] := List.drop_eq_nil_of_le (by simp; omega)
  rw [e1, e2, e3, List.take_append_of_le_length (by simp; omega), e1]

theorem rmv_nil (at_ : Int) : rmv at_ [] = [] := by unfold rmv; split <;> simp
theorem l09Without_l (N : Nat) (c0 at_ : Int) (ks vs : List Int) (hv : vs.length = ks.length) (hs : ks.length ≤ 5864062014805) : ∀ (d k i : Nat), i + d = ks.length → d < k →
    F57_l0 N at_ k c0 ks vs c0 (rmv at_ (ks.take i)) (rmv at_ (vs.take i)) (i : Int) = some (c0, (rmv at_ ks, rmv at_ vs)) := by
  intro d
  induction d with
  | zero =>
    intro k i h hk
    have hi : i = ks.length := by omega
    subst hi
    rw [F57_l0_s _ _ (by omega), F57_l0_b]
    rw [List.take_of_length_le (Nat.le_refl _), List.take_of_length_le (by omega)]
    simp [F57_j0]
  | succ d ih =>
    intro k i h hk
    have hi : i < ks.length := by omega
    have hi' : i < vs.length := by omega
    have l1 : (rmv at_ (ks.take i)).length ≤ i := Nat.le_trans (rmv_length _ _) (by simp; omega)
    have l2 : (rmv at_ (vs.take i)).length ≤ i := Nat.le_trans (rmv_length _ _) (by simp; omega)
    rw [F57_l0_s _ _ (by omega), F57_l0_b]
    simp only [show (i : Int) < (ks.length : Int) by omega, decide_true, cond_true, gd_true (inR hi), gd_true (inR hi'), Int.toNat_natCast, getD_at hi, getD_at hi']
    by_cases hne : (i : Int) = at_
    · subst hne
      simp only [bne_self_eq_false, cond_false, F57_j1]
      rw [w64 (by omega) (by omega), show ((i : Int) + 1) = ((i + 1 : Nat) : Int) by omega, rmv_take_at hi, rmv_take_at hi']
      exact ih (k - 1) (i + 1) (by omega) (by omega)
    · have hb : ((i : Int) != at_) = true := by simpa using hne
      rw [hb, cond_true, gd_true (by rw [lim_i64, List.length_singleton]; omega), gd_true (by rw [lim_i64, List.length_singleton]; omega), rmv_take hi hne, rmv_take hi' hne]
      simp only [F57_j1]
      rw [w64 (by omega) (by omega), show ((i : Int) + 1) = ((i + 1 : Nat) : Int) by omega]
      exact ih (k - 1) (i + 1) (by omega) (by omega)

theorem l09Without_v {N : Nat} {c : Ca} {at_ : Int} (h1 : c.2.1.length < N) (h3 : c.2.1.length ≤ 5864062014805) (hv : c.2.2.length = c.2.1.length) : F57 N c at_ = some (c.1, (rmv at_ c.2.1, rmv at_ c.2.2)) := by
  unfold F57
  have := l09Without_l N c.1 at_ c.2.1 c.2.2 hv h3 c.2.1.length N 0 (by omega) h1
  simpa [rmv_nil] using this
/-- A cache with a key ahead of all. -/
def firstV (c : Ca) (k v : Int) : Ca := (c.1, (k :: rmv (idx k c.2.1) c.2.1, v :: rmv (idx k c.2.1) c.2.2))

theorem idx_range {x : Int} {l : List Int} : idx x l = -1 ∨ 0 ≤ idx x l ∧ idx x l < l.length := by
  rcases idxF_lt x l 0 with h | ⟨j, h1, h2, _⟩
  · exact .inl h
  · have e : idx x l = idxF x l 0 := rfl
    exact .inr ⟨by omega, by omega⟩
theorem l09First_l (N : Nat) (r0 c0 k v : Int) (ks vs : List Int) (hv : vs.length = ks.length) (hs : ks.length + 1 ≤ 5864062014805) : ∀ (d n i : Nat), i + d = ks.length → d < n →
    F58_l0 N n r0 ks vs c0 (k :: ks.take i) (v :: vs.take i) (i : Int) = some (c0, (k :: ks, v :: vs)) := by
  intro d
  induction d with
  | zero =>
    intro n i h hk
    have hi : i = ks.length := by omega
    subst hi
    rw [F58_l0_s _ (by omega), F58_l0_b]
    rw [List.take_of_length_le (Nat.le_refl _), List.take_of_length_le (by omega)]
    simp [F58_j0]
  | succ d ih =>
    intro n i h hk
    have hi : i < ks.length := by omega
    have hi' : i < vs.length := by omega
    have l1 : (k :: ks.take i).length = i + 1 := by simp; omega
    have l2 : (v :: vs.take i).length = i + 1 := by simp; omega
    rw [F58_l0_s _ (by omega), F58_l0_b]
    simp only [show (i : Int) < (ks.length : Int) by omega, decide_true, cond_true, gd_true (inR hi), gd_true (inR hi'), gd_true hi, gd_true hi', Int.toNat_natCast, getD_at hi, getD_at hi']
    rw [gd_true (by rw [lim_i64, l1, List.length_singleton]; omega), gd_true (by rw [lim_i64, l2, List.length_singleton]; omega), List.cons_append, List.cons_append, ← List.take_succ_eq_append_getElem hi, ← List.take_succ_eq_append_getElem hi', w64 (by omega) (by omega), show ((i : Int) + 1) = ((i + 1 : Nat) : Int) by omega]
    exact ih (n - 1) (i + 1) (by omega) (by omega)

theorem l09First_v {N : Nat} {c : Ca} {k v : Int} (h1 : c.2.1.length < N) (h3 : c.2.1.length + 1 ≤ 5864062014805) (hv : c.2.2.length = c.2.1.length) : F58 N c k v = some (firstV c k v) := by
  unfold F58
  rw [l09At_v h1 (by omega), andO_of, l09Without_v h1 (by omega) hv, andO_of]
  have l1 := rmv_length (idx k c.2.1) c.2.1
  have l2 : (rmv (idx k c.2.1) c.2.2).length = (rmv (idx k c.2.1) c.2.1).length := by
    rcases idx_range (x := k) (l := c.2.1) with h | ⟨h, h'⟩
    · rw [h]; simpa [rmv] using hv
    · rw [rmv_len h h', rmv_len h (by omega), hv]
  have := l09First_l N c.1 c.1 k v (rmv (idx k c.2.1) c.2.1) (rmv (idx k c.2.1) c.2.2) l2 (by omega) (rmv (idx k c.2.1) c.2.1).length N 0 (by omega) (by omega)
  simpa [firstV] using this
theorem ahead_v {N : Nat} {c : Ca} {k v : Int} (h1 : c.2.1.length < N) (h3 : c.2.1.length + 1 ≤ 5864062014805) (hv : c.2.2.length = c.2.1.length) : F63 N c k v = some (firstV c k v) := by
  unfold F63
  rw [index_v h1 (by omega), andO_of]
  rcases idx_range (x := k) (l := c.2.1) with h | ⟨h, h'⟩
  · rw [h]
    simp only [show ¬ (-1 : Int) ≥ 0 by omega, decide_false, cond_false, F63_j0]
    rw [gd_true (by rw [lim_i64, List.length_singleton]; omega), gd_true (by rw [lim_i64, List.length_singleton]; omega)]
    simp [firstV, h, rmv]
  · simp only [show idx k c.2.1 ≥ 0 from h, decide_true, cond_true]
    have l1 := rmv_length (idx k c.2.1) c.2.1
    have l2 := rmv_length (idx k c.2.1) c.2.2
    rw [without_v h h' (by omega) (by omega) (by omega), andO_of]
    simp only [F63_j0]
    rw [gd_true (by rw [lim_i64, List.length_singleton]; omega), gd_true (by rw [lim_i64, List.length_singleton]; omega)]
    rfl
theorem okC_len {c : Ca} (h : okC c = true) : c.2.2.length = c.2.1.length ∧ c.2.1.length ≤ 16 ∧ c.1 ≤ 16 ∧ 1 ≤ c.1 ∧ (c.2.1.length : Int) ≤ c.1 := by
  simp only [okC, Bool.and_eq_true, decide_eq_true_eq, Bool.not_eq_true', decide_eq_false_iff_not] at h
  omega
theorem find_v {N : Nat} {c : Ca} {k : Int} (h1 : c.2.1.length < N) (h2 : c.2.1.length < 4611686018427387904) : F60 N c k = some (if okC c = true then idx k c.2.1 else -1) := by
  unfold F60
  rw [iCacheOk_v h1 h2, andO_of]
  cases okC c with
  | false => simp
  | true => simp [index_v h1 h2, andO_of]
abbrev Sz (c : Ca) (N : Nat) : Prop := c.2.1.length < N ∧ c.2.2.length < N ∧ c.2.1.length ≤ 2000000 ∧ c.2.2.length ≤ 2000000
def peekV (c : Ca) (k : Int) : Int × Bool := if okC c = true ∧ 0 ≤ idx k c.2.1 then (c.2.2.getD (idx k c.2.1).toNat 0, true) else (0, false)
def oldV (c : Ca) : Int := if okC c = true ∧ c.2.1 ≠ [] then c.2.1.getD (c.2.1.length - 1) 0 else 1000001
theorem iOldest_v {N : Nat} {c : Ca} (h : Sz c N) : F16 N c = some (oldV c) := by
  unfold F16 oldV
  rw [iCacheOk_v h.1 (by omega), andO_of]
  cases hc : okC c with
  | false => simp
  | true =>
    by_cases hn : c.2.1 = []
    · simp [hn]
    · have hl : 0 < c.2.1.length := List.length_pos_iff.2 hn
      have hb : ((c.2.1.length : Int) == 0) = false := by simp; omega
      simp only [Bool.not_true, cond_false, hb, ne_eq, hn, not_false_eq_true, and_self, if_true, Ty.dflt]
      rw [w64 (by omega) (by omega), gd_true ⟨by omega, by omega⟩, show ((c.2.1.length : Int) - 1).toNat = c.2.1.length - 1 by omega]
def getV (c : Ca) (k : Int) : Ca × (Int × Bool) := if okC c = true ∧ 0 ≤ idx k c.2.1 then (firstV c k (c.2.2.getD (idx k c.2.1).toNat 0), (c.2.2.getD (idx k c.2.1).toNat 0, true)) else (c, (0, false))
theorem sGet_v {N : Nat} {c : Ca} {k : Int} (h : Sz c N) : F35 N c k = some (getV c k) := by
  unfold F35 getV
  rw [l09At_v h.1 (by omega), andO_of, sCacheOk_v h.1 (by omega), andO_of]
  cases hc : okC c with
  | false => simp [l09Copy_v h.1 h.2.1 (show c.2.1.length ≤ 5864062014805 by omega) (show c.2.2.length ≤ 5864062014805 by omega), andO_of]
  | true =>
    obtain ⟨e1, e2, _⟩ := okC_len hc
    rcases idx_range (x := k) (l := c.2.1) with h1 | ⟨h1, h2⟩
    · simp [h1, l09Copy_v h.1 h.2.1 (show c.2.1.length ≤ 5864062014805 by omega) (show c.2.2.length ≤ 5864062014805 by omega), andO_of]
    · simp only [Bool.not_true, cond_false, show ¬ idx k c.2.1 < 0 by omega, decide_false, h1, and_self, if_true, Ty.dflt]
      have g : InR (idx k c.2.1) c.2.2.length := ⟨h1, by omega⟩
      simp only [gd_true g, l09First_v h.1 (show c.2.1.length + 1 ≤ 5864062014805 by omega) e1, andO_of]
theorem iGet_v {N : Nat} {c : Ca} {k : Int} (h : Sz c N) : F40 N c k = some (getV c k) := by
  unfold F40 getV
  rw [find_v h.1 (by omega), andO_of]
  cases hc : okC c with
  | false => simp [ownCache_v (show c.2.1.length ≤ 5864062014805 by omega) (show c.2.2.length ≤ 5864062014805 by omega), andO_of]
  | true =>
    obtain ⟨e1, e2, _⟩ := okC_len hc
    rcases idx_range (x := k) (l := c.2.1) with h1 | ⟨h1, h2⟩
    · simp [h1, ownCache_v (show c.2.1.length ≤ 5864062014805 by omega) (show c.2.2.length ≤ 5864062014805 by omega), andO_of]
    · simp only [if_true, show ¬ idx k c.2.1 < 0 by omega, decide_false, cond_false, h1, and_self, Ty.dflt]
      have g : InR (idx k c.2.1) c.2.2.length := ⟨h1, by omega⟩
      simp only [gd_true g, ahead_v h.1 (show c.2.1.length + 1 ≤ 5864062014805 by omega) e1, andO_of]
/-- A cache that had a key put ahead, cut to its bound. -/
def putV (c : Ca) (k v : Int) : Ca × (Int × Bool) :=
  if okC c = true ∧ Num k ∧ Num v then
    (if ((firstV c k v).2.1.length : Int) ≤ c.1 then (firstV c k v, (1000001, true))
     else ((c.1, (rmv c.1 (firstV c k v).2.1, rmv c.1 (firstV c k v).2.2)), ((firstV c k v).2.1.getD c.1.toNat 0, true)))
  else (c, (1000001, false))

theorem firstV_len {c : Ca} {k v : Int} (h : okC c = true) : (firstV c k v).2.2.length = (firstV c k v).2.1.length ∧ (firstV c k v).2.1.length ≤ c.2.1.length + 1 ∧ 1 ≤ (firstV c k v).2.1.length := by
  obtain ⟨e1, e2, _⟩ := okC_len h
  have l1 := rmv_length (idx k c.2.1) c.2.1
  have l2 : (rmv (idx k c.2.1) c.2.2).length = (rmv (idx k c.2.1) c.2.1).length := by
    rcases idx_range (x := k) (l := c.2.1) with h | ⟨h, h'⟩
    · rw [h]; simpa [rmv] using e1
    · rw [rmv_len h h', rmv_len h (by omega), e1]
  simp only [firstV, List.length_cons]
  omega
theorem sPut_v {N : Nat} {c : Ca} {k v : Int} (h : Sz c N) (hN : 100 ≤ N) : F36 N c k v = some (putV c k v) := by
  unfold F36 putV
  rw [sCacheOk_v h.1 (by omega), andO_of]
  have hcp := l09Copy_v h.1 h.2.1 (show c.2.1.length ≤ 5864062014805 by omega) (show c.2.2.length ≤ 5864062014805 by omega)
  cases hc : okC c with
  | false => simp [hcp, andO_of]
  | true =>
    by_cases hk : Num k
    rotate_left
    · simp [hk, hcp, andO_of, l01Number_v]
    by_cases hv : Num v
    rotate_left
    · simp [hk, hv, hcp, andO_of, l01Number_v]
    obtain ⟨e1, e2, e3, e4, e5⟩ := okC_len hc
    obtain ⟨f1, f2, f3⟩ := firstV_len (k := k) (v := v) hc
    simp only [l01Number_v, andO_of, hk, hv, decide_true, Bool.not_true, cond_false, and_self, if_true, l09First_v h.1 (show c.2.1.length + 1 ≤ 5864062014805 by omega) e1]
    by_cases hle : ((firstV c k v).2.1.length : Int) ≤ c.1
    · simp only [hle, decide_true, cond_true, if_true]
    · have hn : ((firstV c k v).2.1.length : Int) - 1 = c.1 := by omega
      simp only [hle, decide_false, cond_false, if_false]
      rw [w64 (by omega) (by omega), hn]
      have g : InR c.1 (firstV c k v).2.1.length := ⟨by omega, by omega⟩
      have g3 : c.1.toNat < (firstV c k v).2.1.length := by omega
      have g2 : (firstV c k v).1 = c.1 := rfl
      simp only [gd_true g, gd_true g3, l09Without_v (N := N) (c := firstV c k v) (at_ := c.1) (by omega) (by omega) f1, andO_of, Ty.dflt, g2]
theorem iPut_v {N : Nat} {c : Ca} {k v : Int} (h : Sz c N) (hN : 100 ≤ N) : F41 N c k v = some (putV c k v) := by
  unfold F41 putV
  rw [iCacheOk_v h.1 (by omega), andO_of]
  have hcp := ownCache_v (N := N) (show c.2.1.length ≤ 5864062014805 by omega) (show c.2.2.length ≤ 5864062014805 by omega)
  cases hc : okC c with
  | false => simp [hcp, andO_of]
  | true =>
    by_cases hk : Num k
    rotate_left
    · simp [hk, hcp, andO_of, isNum_v]
    by_cases hv : Num v
    rotate_left
    · simp [hk, hv, hcp, andO_of, isNum_v]
    obtain ⟨e1, e2, e3, e4, e5⟩ := okC_len hc
    obtain ⟨f1, f2, f3⟩ := firstV_len (k := k) (v := v) hc
    simp only [isNum_v, andO_of, hk, hv, decide_true, Bool.not_true, cond_false, and_self, if_true, ahead_v h.1 (show c.2.1.length + 1 ≤ 5864062014805 by omega) e1]
    by_cases hle : ((firstV c k v).2.1.length : Int) ≤ c.1
    · simp only [hle, decide_true, cond_true, if_true]
    · simp only [hle, decide_false, cond_false, if_false]
      have g : InR c.1 (firstV c k v).2.1.length := ⟨by omega, by omega⟩
      have g3 : c.1.toNat < (firstV c k v).2.1.length := by omega
      have g2 : (firstV c k v).1 = c.1 := rfl
      simp only [gd_true g, gd_true g3, without_v (N := N) (c := firstV c k v) (at_ := c.1) (by omega) (by omega) (by omega) (by omega) (by omega), andO_of, Ty.dflt, g2]
def dropV (c : Ca) (k : Int) : Ca × Bool := if okC c = true ∧ 0 ≤ idx k c.2.1 then ((c.1, (rmv (idx k c.2.1) c.2.1, rmv (idx k c.2.1) c.2.2)), true) else (c, false)
theorem sDrop_v {N : Nat} {c : Ca} {k : Int} (h : Sz c N) : F34 N c k = some (dropV c k) := by
  unfold F34 dropV
  rw [l09At_v h.1 (by omega), andO_of, sCacheOk_v h.1 (by omega), andO_of]
  have hcp := l09Copy_v h.1 h.2.1 (show c.2.1.length ≤ 5864062014805 by omega) (show c.2.2.length ≤ 5864062014805 by omega)
  cases hc : okC c with
  | false => simp [hcp, andO_of]
  | true =>
    obtain ⟨e1, e2, _⟩ := okC_len hc
    rcases idx_range (x := k) (l := c.2.1) with h1 | ⟨h1, h2⟩
    · simp [h1, hcp, andO_of]
    · simp only [Bool.not_true, cond_false, show ¬ idx k c.2.1 < 0 by omega, decide_false, h1, and_self, if_true, l09Without_v h.1 (show c.2.1.length ≤ 5864062014805 by omega) e1, andO_of]
theorem iDrop_v {N : Nat} {c : Ca} {k : Int} (h : Sz c N) : F38 N c k = some (dropV c k) := by
  unfold F38 dropV
  rw [find_v h.1 (by omega), andO_of]
  have hcp := ownCache_v (N := N) (show c.2.1.length ≤ 5864062014805 by omega) (show c.2.2.length ≤ 5864062014805 by omega)
  cases hc : okC c with
  | false => simp [hcp, andO_of]
  | true =>
    obtain ⟨e1, e2, _⟩ := okC_len hc
    rcases idx_range (x := k) (l := c.2.1) with h1 | ⟨h1, h2⟩
    · simp [h1, hcp, andO_of]
    · simp only [if_true, show ¬ idx k c.2.1 < 0 by omega, decide_false, cond_false, h1, and_self, without_v h1 h2 (show idx k c.2.1 < c.2.2.length by omega) (show c.2.1.length ≤ 5864062014805 by omega) (show c.2.2.length ≤ 5864062014805 by omega), andO_of]
def resV (c : Ca) (n : Int) : Ca × Bool := if okC c = true ∧ 1 ≤ n ∧ n ≤ 16 then ((n, (c.2.1.take n.toNat, c.2.2.take n.toNat)), true) else (c, false)
theorem dC (c : Ca) : decide (1 + (c.2.1.length : Int) + (c.2.2.length : Int) < 0) = false := dlt (by omega)

theorem getV_sz {c : Ca} {k : Int} {N : Nat} (h : Sz c N) (hN : 100 ≤ N) : Sz (getV c k).1 N := by
  unfold getV
  split
  · rename_i hc
    obtain ⟨e1, e2, _⟩ := okC_len hc.1
    obtain ⟨f1, f2, f3⟩ := firstV_len (k := k) (v := c.2.2.getD (idx k c.2.1).toNat 0) hc.1
    simp only [Sz]
    omega
  · exact h

theorem putV_sz {c : Ca} {k v : Int} {N : Nat} (h : Sz c N) (hN : 100 ≤ N) : Sz (putV c k v).1 N := by
  unfold putV
  split
  · rename_i hc
    obtain ⟨e1, e2, _⟩ := okC_len hc.1
    obtain ⟨f1, f2, f3⟩ := firstV_len (k := k) (v := v) hc.1
    split
    · simp only [Sz]
      omega
    · have l1 := rmv_length c.1 (firstV c k v).2.1
      have l2 := rmv_length c.1 (firstV c k v).2.2
      simp only [Sz]
      omega
  · exact h

theorem dropV_sz {c : Ca} {k : Int} {N : Nat} (h : Sz c N) : Sz (dropV c k).1 N := by
  unfold dropV
  split
  · have l1 := rmv_length (idx k c.2.1) c.2.1
    have l2 := rmv_length (idx k c.2.1) c.2.2
    obtain ⟨a1, a2, a3, a4⟩ := h
    simp only [Sz]
    omega
  · exact h

theorem resV_sz {c : Ca} {n : Int} {N : Nat} (h : Sz c N) : Sz (resV c n).1 N := by
  unfold resV
  split
  · obtain ⟨a1, a2, a3, a4⟩ := h
    simp only [Sz, List.length_take]
    omega
  · exact h
/-- What a law lets in. -/
theorem wfCa {c : Ca} (h : (Ty.pair (.int .i64) (.pair (.sl (.int .i64)) (.sl (.int .i64)))).wf c) : c.2.1.length ≤ 9223372036854775807 ∧ c.2.2.length ≤ 9223372036854775807 := by
  obtain ⟨_, ⟨h1, _⟩, ⟨h2, _⟩⟩ := h
  exact ⟨h1, h2⟩
end Go.Proofs.YtgpddckjpokclaaDoor.Vc
