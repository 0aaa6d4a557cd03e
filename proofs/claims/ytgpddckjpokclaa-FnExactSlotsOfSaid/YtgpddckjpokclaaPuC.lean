/- Caches: what the program's functions and the reference's give. -/
import Derived.Test.YtgpddckjpokclaaPuL
namespace Go.Proofs.Ytgpddckjpokclaa.Vc
open Go Go.RowKit
set_option linter.unusedVariables false
set_option linter.unusedSimpArgs false
theorem l01In_v (N : Nat) (x a b : Int) : F71 N x a b = some (decide (a ≤ x ∧ x ≤ b)) := by
  unfold F71
  by_cases h : a ≤ x <;> simp [h]
theorem in_v (N : Nat) (x a b : Int) : F130 N x a b = some (decide (a ≤ x ∧ x ≤ b)) := by
  unfold F130
  by_cases h : x ≥ a <;> simp [h]
/-- A number that the program takes. -/
def Num (x : Int) : Prop := -1000000 ≤ x ∧ x ≤ 1000000

instance (x : Int) : Decidable (Num x) := inferInstanceAs (Decidable (-1000000 ≤ x ∧ x ≤ 1000000))
theorem l01Number_v (N : Nat) (x : Int) : F156 N x = some (decide (Num x)) := by
  unfold F156
  rw [l01In_v, andO_of]
  rfl
theorem isNum_v (N : Nat) (x : Int) : F152 N x = some (decide (Num x)) := by
  unfold F152
  rw [in_v, andO_of]
  rfl
/-- The place of a number in a list, from place i on; -1 if there is none. -/
def idxF (x : Int) : List Int → Nat → Int
  | [], _ => -1
  | y :: l, i => if y = x then (i : Int) else idxF x l (i + 1)

theorem idxF_lt (x : Int) : ∀ (l : List Int) (i : Nat), idxF x l i = -1 ∨ ∃ j, j < l.length ∧ idxF x l i = ((i + j : Nat) : Int) ∧ l[j]? = some x
  | [], i => .inl rfl
  | y :: l, i => by
    simp only [idxF]
    by_cases h : y = x
    · rw [if_pos h]
      exact .inr ⟨0, by simp, rfl, by simp [h]⟩
    · rw [if_neg h]
      rcases idxF_lt x l (i + 1) with h1 | ⟨j, h1, h2, h3⟩
      · exact .inl h1
      · exact .inr ⟨j + 1, by simp; omega, by rw [h2]; omega, by simpa using h3⟩

theorem idxF_none {x : Int} : ∀ {l : List Int} {i : Nat}, idxF x l i = -1 ↔ x ∉ l
  | [], i => by simp [idxF]
  | y :: l, i => by
    simp only [idxF, List.mem_cons, not_or]
    by_cases h : y = x
    · rw [if_pos h]
      constructor
      · intro e; omega
      · intro e; exact absurd h.symm e.1
    · rw [if_neg h, idxF_none]
      exact ⟨fun e => ⟨fun e' => h e'.symm, e⟩, fun e => e.2⟩

abbrev idx (x : Int) (l : List Int) : Int := idxF x l 0
theorem l01Has_l (N : Nat) (a : List Int) (x : Int) (hs : a.length < 4611686018427387904) : ∀ (d k i : Nat), i + d = a.length → d < k → F87_l0 N a x k (i : Int) = some (decide (x ∈ a.drop i)) := by
  intro d
  induction d with
  | zero =>
    intro k i h hk
    have hi : i = a.length := by omega
    subst hi
    rw [F87_l0_s _ _ _ (by omega), F87_l0_b]
    simp [F87_j0]
  | succ d ih =>
    intro k i h hk
    have hi : i < a.length := by omega
    rw [F87_l0_s _ _ _ (by omega), F87_l0_b]
    simp only [show (i : Int) < (a.length : Int) by omega, decide_true, cond_true, gd_true (inR hi), Int.toNat_natCast, getD_at hi]
    rw [w64 (by omega) (by omega), show ((i : Int) + 1) = ((i + 1 : Nat) : Int) by omega, ih (k - 1) (i + 1) (by omega) (by omega), List.drop_eq_getElem_cons hi]
    by_cases hx : a[i] = x
    · have : (a[i] == x) = true := by simp [hx]
      rw [this, cond_true]
      simp [hx]
    · have : (a[i] == x) = false := by simp [hx]
      simp only [this, cond_false, List.mem_cons, fun e : x = a[i] => hx e.symm, false_or]
      have h2 : ¬ x = a[i] := fun e => hx e.symm
      simp only [h2, false_or]

theorem l01Has_v {N : Nat} {a : List Int} {x : Int} (hs : a.length < N) (hN : a.length < 4611686018427387904) : F87 N a x = some (decide (x ∈ a)) := by
  unfold F87
  have := l01Has_l N a x hN a.length N 0 (by omega) hs
  simpa using this
/-- The keys and values from place i on are right. -/
def okL (ks vs : List Int) : Nat → Nat → Bool
  | 0, _ => true
  | d + 1, i => decide (Num (ks.getD i 0)) && decide (Num (vs.getD i 0)) && !decide (ks.getD i 0 ∈ ks.take i) && okL ks vs d (i + 1)

def okC (c : Ca) : Bool := decide (1 ≤ c.1 ∧ c.1 ≤ 16) && !decide ((c.2.1.length : Int) > c.1) && decide (c.2.2.length = c.2.1.length) && okL c.2.1 c.2.2 c.2.1.length 0

theorem idx_ne {ks : List Int} {i : Nat} (hi : i < ks.length) : (idx ks[i] ks != (i : Int)) = decide (ks[i] ∈ ks.take i) := by
  have key : ∀ (x : Int) (l : List Int) (j i : Nat) (h : i < l.length), l[i] = x → (idxF x l j != ((j + i : Nat) : Int)) = decide (x ∈ l.take i) := by
    intro x l
    induction l with
    | nil => intro j i h; simp at h
    | cons y l ih =>
      intro j i h hx
      cases i with
      | zero =>
        simp only [List.getElem_cons_zero] at hx
        subst hx
        simp [idxF]
      | succ i =>
        simp only [List.getElem_cons_succ] at hx
        simp only [idxF, List.take_succ_cons, List.mem_cons]
        by_cases hy : y = x
        · subst hy
          rw [if_pos rfl]
          have : ((j : Int) != ((j + (i + 1) : Nat) : Int)) = true := by
            have : (j : Int) ≠ ((j + (i + 1) : Nat) : Int) := by omega
            simpa using this
          rw [this]
          simp
        · rw [if_neg hy, show j + (i + 1) = j + 1 + i by omega, ih (j + 1) i (by simpa using h) hx]
          have h2 : ¬ x = y := fun e => hy e.symm
          simp only [h2, false_or]
  have := key ks[i] ks 0 i hi rfl
  simpa using this
/-- A list without what stands at a place. -/
def rmv (at_ : Int) (xs : List Int) : List Int := if at_ < 0 then xs else xs.take at_.toNat ++ xs.drop (at_.toNat + 1)

theorem rmv_length (at_ : Int) (xs : List Int) : (rmv at_ xs).length ≤ xs.length := by
  unfold rmv
  split
  · exact Nat.le_refl _
  · simp; omega

theorem rmv_len {at_ : Int} {xs : List Int} (h0 : 0 ≤ at_) (h : at_ < xs.length) : (rmv at_ xs).length = xs.length - 1 := by
  unfold rmv
  rw [if_neg (by omega)]
  simp
  omega
theorem rmv_take {at_ : Int} {xs : List Int} {i : Nat} (hi : i < xs.length) (hne : (i : Int) ≠ at_) : rmv at_ (xs.take i) ++ [xs[i]] = rmv at_ (xs.take (i + 1)) := by
  unfold rmv
  by_cases h : at_ < 0
  · rw [if_pos h, if_pos h, List.take_succ_eq_append_getElem hi]
  · rw [if_neg h, if_neg h, List.take_succ_eq_append_getElem hi]
    by_cases h2 : at_.toNat < i
    · rw [List.take_append_of_le_length (by simp; omega), List.drop_append_of_le_length (by simp; omega), List.append_assoc]
    · have h3 : i < at_.toNat := by omega
      have e1 : (xs.take i).take at_.toNat = xs.take i := List.take_of_length_le (by simp; omega)
      have e2 : (xs.take i).drop (at_.toNat + 1) = [] := List.drop_eq_nil_of_le (by simp; omega)
      have e3 : (xs.take i ++ [xs[i]]).take at_.toNat = xs.take i ++ [xs[i]] := List.take_of_length_le (by simp; omega)
      have e4 : (xs.take i ++ [xs[i]]).drop (at_.toNat + 1) = [] := List.drop_eq_nil_of_le (by simp; omega)
      rw [e1, e2, e3, e4]
      simp

theorem rmv_take_at {xs : List Int} {i : Nat} (hi : i < xs.length) : rmv (i : Int) (xs.take i) = rmv (i : Int) (xs.take (i + 1)) := by
  unfold rmv
  rw [if_neg (by omega), if_neg (by omega), List.take_succ_eq_append_getElem hi]
  simp only [Int.toNat_natCast]
  have e1 : (xs.take i).take i = xs.take i := List.take_of_length_le (by simp; omega)
  have e2 : (xs.take i).drop (i + 1) = [] := List.drop_eq_nil_of_le (by simp; omega)
  have e3 : (xs.take i ++ [xs[i]]).drop (i + 1) = [] := List.drop_eq_nil_of_le (by simp; omega)
  rw [e1, e2, e3, List.take_append_of_le_length (by simp; omega), e1]

theorem rmv_nil (at_ : Int) : rmv at_ [] = [] := by unfold rmv; split <;> simp
/-- A cache with a key ahead of all. -/
def firstV (c : Ca) (k v : Int) : Ca := (c.1, (k :: rmv (idx k c.2.1) c.2.1, v :: rmv (idx k c.2.1) c.2.2))

theorem idx_range {x : Int} {l : List Int} : idx x l = -1 ∨ 0 ≤ idx x l ∧ idx x l < l.length := by
  rcases idxF_lt x l 0 with h | ⟨j, h1, h2, _⟩
  · exact .inl h
  · have e : idx x l = idxF x l 0 := rfl
    exact .inr ⟨by omega, by omega⟩
theorem okC_len {c : Ca} (h : okC c = true) : c.2.2.length = c.2.1.length ∧ c.2.1.length ≤ 16 ∧ c.1 ≤ 16 ∧ 1 ≤ c.1 ∧ (c.2.1.length : Int) ≤ c.1 := by
  simp only [okC, Bool.and_eq_true, decide_eq_true_eq, Bool.not_eq_true', decide_eq_false_iff_not] at h
  omega
abbrev Sz (c : Ca) (N : Nat) : Prop := c.2.1.length < N ∧ c.2.2.length < N ∧ c.2.1.length ≤ 2000000 ∧ c.2.2.length ≤ 2000000
def peekV (c : Ca) (k : Int) : Int × Bool := if okC c = true ∧ 0 ≤ idx k c.2.1 then (c.2.2.getD (idx k c.2.1).toNat 0, true) else (0, false)
def oldV (c : Ca) : Int := if okC c = true ∧ c.2.1 ≠ [] then c.2.1.getD (c.2.1.length - 1) 0 else 1000001
def getV (c : Ca) (k : Int) : Ca × (Int × Bool) := if okC c = true ∧ 0 ≤ idx k c.2.1 then (firstV c k (c.2.2.getD (idx k c.2.1).toNat 0), (c.2.2.getD (idx k c.2.1).toNat 0, true)) else (c, (0, false))
/-- A cache that had a key put ahead, cut to its bound. -/
def putV (c : Ca) (k v : Int) : Ca × (Int × Bool) :=
  if okC c = true ∧ Num k ∧ Num v then
    (if ((firstV c k v).2.1.length : Int) ≤ c.1 then (firstV c k v, (1000001, true))
     else ((c.1, (rmv c.1 (firstV c k v).2.1, rmv c.1 (firstV c k v).2.2)), ((firstV c k v).2.1.getD c.1.toNat 0, true)))
  else (c, (1000001, false))

theorem firstV_len {c : Ca} {k v : Int} (h : okC c = true) : (firstV c k v).2.2.length = (firstV c k v).2.1.length ∧ (firstV c k v).2.1.length ≤ c.2.1.length + 1 ∧ 1 ≤ (firstV c k v).2.1.length := by
  obtain ⟨e1, e2, _⟩ := okC_len h
  have l1 := rmv_length (idx k c.2.1) c.2.1
  have l2 : (rmv (idx k c.2.1) c.2.2).length = (rmv (idx k c.2.1) c.2.1).length := by
    rcases idx_range (x := k) (l := c.2.1) with h | ⟨h, h'⟩
    · rw [h]; simpa [rmv] using e1
    · rw [rmv_len h h', rmv_len h (by omega), e1]
  simp only [firstV, List.length_cons]
  omega
def dropV (c : Ca) (k : Int) : Ca × Bool := if okC c = true ∧ 0 ≤ idx k c.2.1 then ((c.1, (rmv (idx k c.2.1) c.2.1, rmv (idx k c.2.1) c.2.2)), true) else (c, false)
def resV (c : Ca) (n : Int) : Ca × Bool := if okC c = true ∧ 1 ≤ n ∧ n ≤ 16 then ((n, (c.2.1.take n.toNat, c.2.2.take n.toNat)), true) else (c, false)
theorem dC (c : Ca) : decide (1 + (c.2.1.length : Int) + (c.2.2.length : Int) < 0) = false := dlt (by omega)

theorem getV_sz {c : Ca} {k : Int} {N : Nat} (h : Sz c N) (hN : 100 ≤ N) : Sz (getV c k).1 N := by
  unfold getV
  split
  · rename_i hc
    obtain ⟨e1, e2, _⟩ := okC_len hc.1
    obtain ⟨f1, f2, f3⟩ := firstV_len (k := k) (v := c.2.2.getD (idx k c.2.1).toNat 0) hc.1
    simp only [Sz]
    omega
  · exact h

theorem putV_sz {c : Ca} {k v : Int} {N : Nat} (h : Sz c N) (hN : 100 ≤ N) : Sz (putV c k v).1 N := by
  unfold putV
  split
  · rename_i hc
    obtain ⟨e1, e2, _⟩ := okC_len hc.1
    obtain ⟨f1, f2, f3⟩ := firstV_len (k := k) (v := v) hc.1
    split
    · simp only [Sz]
      omega
    · have l1 := rmv_length c.1 (firstV c k v).2.1
      have l2 := rmv_length c.1 (firstV c k v).2.2
      simp only [Sz]
      omega
  · exact h

theorem dropV_sz {c : Ca} {k : Int} {N : Nat} (h : Sz c N) : Sz (dropV c k).1 N := by
  unfold dropV
  split
  · have l1 := rmv_length (idx k c.2.1) c.2.1
    have l2 := rmv_length (idx k c.2.1) c.2.2
    obtain ⟨a1, a2, a3, a4⟩ := h
    simp only [Sz]
    omega
  · exact h

theorem resV_sz {c : Ca} {n : Int} {N : Nat} (h : Sz c N) : Sz (resV c n).1 N := by
  unfold resV
  split
  · obtain ⟨a1, a2, a3, a4⟩ := h
    simp only [Sz, List.length_take]
    omega
  · exact h
/-- What a law lets in. -/
theorem wfCa {c : Ca} (h : (Ty.pair (.int .i64) (.pair (.sl (.int .i64)) (.sl (.int .i64)))).wf c) : c.2.1.length ≤ 9223372036854775807 ∧ c.2.2.length ≤ 9223372036854775807 := by
  obtain ⟨_, ⟨h1, _⟩, ⟨h2, _⟩⟩ := h
  exact ⟨h1, h2⟩
end Go.Proofs.Ytgpddckjpokclaa.Vc
