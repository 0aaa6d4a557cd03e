/- Nodes and plans: what the program's functions and the reference's give. -/
import Derived.Test.YtgpddckjpokclaaPuC
namespace Go.Proofs.Ytgpddckjpokclaa.Vc
open Go Go.RowKit
set_option linter.unusedVariables false
set_option linter.unusedSimpArgs false

abbrev Nd := Int × (ByteArray × (Int × (Int × (Int × (Bool × List Int)))))

/-- Whether f holds at the d places from i on. -/
def allF (f : Nat → Bool) : Nat → Nat → Bool
  | _, 0 => true
  | i, d + 1 => f i && allF f (i + 1) d

theorem allF_congr {f g : Nat → Bool} : ∀ {d i : Nat}, (∀ j, i ≤ j → f j = g j) → allF f i d = allF g i d
  | 0, i, h => rfl
  | d + 1, i, h => by
    rw [allF, allF, h i (Nat.le_refl _), allF_congr (fun j hj => h j (by omega))]

def chr (w : ByteArray) (i : Nat) : Int := ((w.data.getD i 0).toNat : Int)

def okI (w : ByteArray) (i : Nat) : Bool := decide ((97 ≤ chr w i ∧ chr w i ≤ 122) ∨ (i ≠ 0 ∧ 48 ≤ chr w i ∧ chr w i ≤ 57))
def okS (w : ByteArray) (i : Nat) : Bool := decide ((97 ≤ chr w i ∧ chr w i ≤ 122) ∨ (48 ≤ chr w i ∧ chr w i ≤ 57))

/-- A word. -/
def wordB (w : ByteArray) : Bool := allF (okI w) 0 w.size && decide (1 ≤ (w.size : Int) ∧ (w.size : Int) ≤ 12)
theorem iWord_l (N : Nat) (a : ByteArray) (hs : a.size < 4611686018427387904) : ∀ (d k i : Nat), i + d = a.size → d < k → F140_l0 N a k (a.size : Int) (i : Int) = some (allF (okI a) i d && decide (1 ≤ (a.size : Int) ∧ (a.size : Int) ≤ 12)) := by
  intro d
  induction d with
  | zero =>
    intro k i h hk
    rw [F140_l0_s _ _ (by omega), F140_l0_b]
    simp only [show ¬ (i : Int) < (a.size : Int) by omega, decide_false, cond_false, F140_j0, in_v, andO_of, allF, Bool.true_and]
  | succ d ih =>
    intro k i h hk
    have hi : i < a.size := by omega
    have e0 : (((i : Nat) : Int) == 0) = decide (i = 0) := by
      rw [Bool.eq_iff_iff]; simp
    rw [F140_l0_s _ _ (by omega), F140_l0_b]
    simp only [show (i : Int) < (a.size : Int) by omega, decide_true, cond_true, gd_true (inR hi), Int.toNat_natCast, F140_j1, e0]
    rw [w64 (by omega) (by omega), show ((i : Int) + 1) = ((i + 1 : Nat) : Int) by omega, ih (k - 1) (i + 1) (by omega) (by omega)]
    simp only [allF, okI, chr]
    obtain ⟨c, hc⟩ : ∃ c : Int, ((a.data.getD i 0).toNat : Int) = c := ⟨_, rfl⟩
    simp only [hc]
    have hd : ∀ (φ : Prop) [Decidable φ], φ → decide φ = true := fun φ _ h => by simp [h]
    have hn : ∀ (φ : Prop) [Decidable φ], ¬ φ → decide φ = false := fun φ _ h => by simp [h]
    by_cases ho : (97 ≤ c ∧ c ≤ 122) ∨ (i ≠ 0 ∧ 48 ≤ c ∧ c ≤ 57)
    · rw [hd _ ho, Bool.true_and]
      by_cases h1 : c ≥ 97
      · by_cases h2 : c ≤ 122
        · simp only [hd _ h1, hd _ h2, cond_true, Bool.not_true, cond_false]
        · exfalso; omega
      · rw [hn _ h1, cond_false, hn _ (show ¬ i = 0 by omega), cond_false, hn _ (show ¬ c < 48 by omega), cond_false, hn _ (show ¬ c > 57 by omega), cond_false]
    · rw [hn _ ho, Bool.false_and]
      by_cases h1 : c ≥ 97
      · by_cases h2 : c ≤ 122
        · exfalso; omega
        · simp only [hd _ h1, hn _ h2, cond_true, Bool.not_false, hn _ (show ¬ c < 48 by omega), hd _ (show c > 57 by omega), cond_false]
          cases decide (i = 0) <;> rfl
      · rw [hn _ h1, cond_false]
        by_cases h0 : i = 0
        · rw [hd _ h0, cond_true]; rfl
        · rw [hn _ h0, cond_false]
          by_cases h3 : c < 48
          · rw [hd _ h3, cond_true]; rfl
          · rw [hn _ h3, cond_false, hd _ (show c > 57 by omega), cond_true]; rfl

theorem iWord_v {N : Nat} {a : ByteArray} (hs : a.size < N) (hN : a.size < 4611686018427387904) : F140 N a = some (wordB a) := by
  unfold F140
  exact iWord_l N a hN a.size N 0 (by omega) hs
theorem sWord_l (N : Nat) (a : ByteArray) (hs : a.size < 4611686018427387904) : ∀ (d k i : Nat), i + d = a.size → d < k → F138_l0 N a k (i : Int) = some (allF (okS a) i d) := by
  intro d
  induction d with
  | zero =>
    intro k i h hk
    rw [F138_l0_s _ _ (by omega), F138_l0_b]
    simp only [show ¬ (i : Int) < (a.size : Int) by omega, decide_false, cond_false, F138_j0, allF]
  | succ d ih =>
    intro k i h hk
    have hi : i < a.size := by omega
    rw [F138_l0_s _ _ (by omega), F138_l0_b]
    simp only [show (i : Int) < (a.size : Int) by omega, decide_true, cond_true, gd_true (inR hi), Int.toNat_natCast, F138_j1]
    rw [w64 (by omega) (by omega), show ((i : Int) + 1) = ((i + 1 : Nat) : Int) by omega, ih (k - 1) (i + 1) (by omega) (by omega)]
    simp only [allF, okS, chr]
    obtain ⟨c, hc⟩ : ∃ c : Int, ((a.data.getD i 0).toNat : Int) = c := ⟨_, rfl⟩
    simp only [hc]
    have hd : ∀ (φ : Prop) [Decidable φ], φ → decide φ = true := fun φ _ h => by simp [h]
    have hn : ∀ (φ : Prop) [Decidable φ], ¬ φ → decide φ = false := fun φ _ h => by simp [h]
    by_cases ho : (97 ≤ c ∧ c ≤ 122) ∨ (48 ≤ c ∧ c ≤ 57)
    · rw [hd _ ho, Bool.true_and]
      by_cases h1 : c < 97
      · simp only [hd _ h1, hn _ (show ¬ c < 48 by omega), hn _ (show ¬ c > 57 by omega), cond_true, cond_false]
      · simp only [hn _ h1, hn _ (show ¬ c > 122 by omega), cond_false]
    · rw [hn _ ho, Bool.false_and]
      by_cases h1 : c < 97
      · by_cases h3 : c < 48
        · simp only [hd _ h1, hd _ h3, cond_true]
        · simp only [hd _ h1, hn _ h3, hd _ (show c > 57 by omega), cond_true, cond_false]
      · simp only [hn _ h1, hd _ (show c > 122 by omega), cond_false, cond_true, hn _ (show ¬ c < 48 by omega), hd _ (show c > 57 by omega)]

theorem sWord_v {N : Nat} {a : ByteArray} (hs : a.size < N) (hN : a.size < 4611686018427387904) : F138 N a = some (wordB a) := by
  unfold F138
  rw [l01In_v, andO_of, wordB]
  by_cases hl : 1 ≤ (a.size : Int) ∧ (a.size : Int) ≤ 12
  · have h0 : 0 < a.size := by omega
    simp only [hl, and_self, decide_true, Bool.not_true, cond_false, Bool.and_true]
    rw [gd_true (by simp only [InR]; omega)]
    have hl := sWord_l N a hN a.size N 0 (by omega) hs
    rw [show ((0 : Int)) = ((0 : Nat) : Int) from rfl, hl]
    obtain ⟨n, hn⟩ : ∃ n, a.size = n + 1 := ⟨a.size - 1, by omega⟩
    rw [hn]
    simp only [allF, Int.toNat_natCast]
    have hcg : ∀ j : Nat, 0 + 1 ≤ j → okI a j = okS a j := by
      intro j hj
      have : j ≠ 0 := by omega
      simp only [okI, okS, ne_eq, this, not_false_eq_true, true_and]
    rw [allF_congr hcg]
    have hc : okI a 0 = (decide (¬ chr a 0 < 97) && okS a 0) := by
      simp only [okI, okS, ne_eq, not_true_eq_false, false_and, or_false]
      rw [Bool.eq_iff_iff]
      simp only [Bool.and_eq_true, decide_eq_true_eq]
      omega
    rw [hc]
    show cond (decide (chr a 0 < 97)) _ _ = _
    by_cases h9 : chr a 0 < 97
    · simp [h9]
    · simp [h9]
  · simp [hl]
/-- The two nodes are the same, field by field. -/
def sameB (a b : Nd) : Bool := a.1 == b.1 && (a.2.1.toList == b.2.1.toList && (a.2.2.1 == b.2.2.1 && (a.2.2.2.1 == b.2.2.2.1 && (a.2.2.2.2.1 == b.2.2.2.2.1 && (a.2.2.2.2.2.1 == b.2.2.2.2.2.1 && decide (a.2.2.2.2.2.2 = b.2.2.2.2.2.2))))))

theorem cond_and (a b : Bool) : (cond a (some b) (some false)) = some (a && b) := by cases a <;> rfl
/-- A node that a plan may have. -/
def nodeB (a : Nd) : Bool :=
  let e := a.2.1.toList == ByteArray.empty.toList
  let col := decide (0 ≤ a.2.2.1 ∧ a.2.2.1 ≤ 63)
  let cz := a.2.2.1 == 0
  let oz := a.2.2.2.1 == 0
  let nz := a.2.2.2.2.1 == 0
  let sl := a.2.2.2.2.2.1
  let nc := decide (a.2.2.2.2.2.2 = [])
  let s39 := decide (0 ≤ a.2.2.2.2.1 ∧ a.2.2.2.2.1 ≤ 39)
  cond (a.1 == 0) (wordB a.2.1 && cz && oz && nz && !sl && nc)
    (cond (a.1 == 1) (e && nc && col && decide (0 ≤ a.2.2.2.1 ∧ a.2.2.2.1 ≤ 3) && (cond (a.2.2.2.1 == 3) (nz && !sl) (cond sl s39 (decide (Num a.2.2.2.2.1)))))
    (cond (a.1 == 2) (e && decide (1 ≤ (a.2.2.2.2.2.2.length : Int) ∧ (a.2.2.2.2.2.2.length : Int) ≤ 6) && a.2.2.2.2.2.2.all (fun x => decide (0 ≤ x ∧ x ≤ 63)) && cz && oz && nz && !sl)
    (cond (a.1 == 3) (e && nc && col && decide (0 ≤ a.2.2.2.2.1 ∧ a.2.2.2.2.1 ≤ 63) && oz && !sl)
    (cond (a.1 == 5) (e && nc && col && nz && oz && !sl)
    (cond (a.1 == 6) (e && nc && decide (0 ≤ a.2.2.2.2.1 ∧ a.2.2.2.2.1 ≤ 1000000) && (!sl || s39) && cz && oz)
    ((a.1 == 4 || a.1 == 7) && e && nc && cz && oz && nz && !sl))))))
end Go.Proofs.Ytgpddckjpokclaa.Vc
