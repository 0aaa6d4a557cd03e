/- Plain lemmas on what the functions compute, and the law. -/
import Derived.Test.YtjbahkjjgciooaaYa
import Derived.Laws.BitsLemmas
namespace Go.Proofs.Ytjbahkjjgciooaa.Vc
open Go Go.RowKit
set_option linter.unusedVariables false
set_option linter.unusedSimpArgs false
theorem andO_of {α β : Type} (a : α) (k : α → Option β) : andO (some a) k = k a := rfl
theorem w64 {x : Int} (h1 : -9223372036854775808 ≤ x) (h2 : x ≤ 9223372036854775807) : IntKind.i64.wrap x = x := by
 rw [IntKind.wrap_i64]; omega
theorem inR {i k : Nat} (h : i < k) : InR (i : Int) k := by simp only [InR]; omega
theorem getD_at {α : Type} {xs : List α} {i : Nat} {d : α} (h : i < xs.length) : xs.getD i d = xs[i] := by simp [List.getD, h]
theorem lim_i64 : lim (.int .i64) = 5864062014805 := by decide
theorem lim_u8 : lim (.int .u8) = 5864062014805 := by decide
theorem drop_eq_iff {α : Type} {a b : List α} {i : Nat} (hi : i < a.length) (hi' : i < b.length) : a.drop i = b.drop i ↔ a[i] = b[i] ∧ a.drop (i + 1) = b.drop (i + 1) := by
 rw [List.drop_eq_getElem_cons hi, List.drop_eq_getElem_cons hi', List.cons.injEq]
theorem bne_len {a b : Nat} : (((a : Nat) : Int) != ((b : Nat) : Int)) = decide (a ≠ b) := by
 by_cases h : a = b
 ·subst h; simp
 ·have : (a : Int) ≠ (b : Int) := by omega
  simp [h, this]
end Go.Proofs.Ytjbahkjjgciooaa.Vc
namespace Go.Proofs.Ytjbahkjjgciooaa.Vc
open Go Go.RowKit
set_option linter.unusedVariables false
set_option linter.unusedSimpArgs false
theorem eqIntS_l (N : Nat) (a b : List Int) (hl : a.length = b.length) (hs : a.length < 4611686018427387904) : ∀ (d k i : Nat), i + d = a.length → d < k → F102_l0 N a b k (i : Int) = some (decide (a.drop i = b.drop i)) := by
 intro d
 induction d with
 | zero =>
  intro k i h hk
  rw [F102_l0_s _ _ _ (by omega), F102_l0_b]
  simp only [show ¬ (i : Int) < (a.length : Int) by omega, decide_false, cond_false, F102_j0]
  rw [List.drop_eq_nil_of_le (by omega), List.drop_eq_nil_of_le (by omega)]
  rfl
 | succ d ih =>
  intro k i h hk
  have hi : i < a.length := by omega
  have hi' : i < b.length := by omega
  rw [F102_l0_s _ _ _ (by omega), F102_l0_b]
  simp only [show (i : Int) < (a.length : Int) by omega, decide_true, cond_true, gd_true (inR hi), gd_true (inR hi'), Int.toNat_natCast, getD_at hi, getD_at hi']
  rw [w64 (by omega) (by omega), show ((i : Int) + 1) = ((i + 1 : Nat) : Int) by omega, ih (k - 1) (i + 1) (by omega) (by omega)]
  by_cases hx : a[i] = b[i]
  ·simp only [hx, bne_self_eq_false, cond_false, drop_eq_iff hi hi', true_and]
  ·have : (a[i] != b[i]) = true := by simp [hx]
   simp only [this, cond_true, drop_eq_iff hi hi', hx, false_and, decide_false]
theorem eqIntS_v {N : Nat} {a b : List Int} (hs : a.length < N) (hN : a.length < 4611686018427387904) : F102 N a b = some (decide (a = b)) := by
 unfold F102
 rw [bne_len]
 by_cases hl : a.length = b.length
 ·simp only [hl, ne_eq, not_true_eq_false, decide_false, cond_false]
  have := eqIntS_l N a b hl hN a.length N 0 (by omega) hs
  simpa using this
 ·have : a ≠ b := fun e => hl (by rw [e])
  simp [hl, this]
theorem toIntS_l (N : Nat) (a : List Int) (hs : a.length < 4611686018427387904) : ∀ (d k i : Nat), i + d = a.length → d < k → F101_l0 N a k (a.take i ++ List.replicate (a.length - i) 0) (i : Int) = some a := by
 intro d
 induction d with
 | zero =>
  intro k i h hk
  have hi : i = a.length := by omega
  subst hi
  rw [F101_l0_s _ _ (by omega), F101_l0_b]
  simp [F101_j0]
 | succ d ih =>
  intro k i h hk
  have hi : i < a.length := by omega
  have hl : (a.take i ++ List.replicate (a.length - i) (0 : Int)).length = a.length := by simp; omega
  rw [F101_l0_s _ _ (by omega), F101_l0_b]
  simp only [hl, show (i : Int) < (a.length : Int) by omega, decide_true, cond_true, gd_true (inR hi), Int.toNat_natCast, gd_true hi, getD_at hi]
  rw [w64 (x := (i : Int) + 1) (by omega) (by omega), show ((i : Int) + 1) = ((i + 1 : Nat) : Int) by omega]
  have hset : (a.take i ++ List.replicate (a.length - i) (0 : Int)).set i a[i] = a.take (i + 1) ++ List.replicate (a.length - (i + 1)) 0 := by
   rw [List.set_append_right _ _ (by simp; omega), show (a.length - i) = (a.length - (i + 1)) + 1 by omega, List.replicate_succ]
   have : i - (a.take i).length = 0 := by simp; omega
   rw [this, List.set_cons_zero, List.take_succ_eq_append_getElem hi, List.append_assoc, List.singleton_append]
  rw [hset]
  exact ih (k - 1) (i + 1) (by omega) (by omega)
theorem toIntS_v {N : Nat} {a : List Int} (hs : a.length < N) (hN : a.length ≤ 5864062014805) : F101 N a = some a := by
 unfold F101
 rw [gd_true ⟨by omega, by rw [lim_i64]; omega, rfl⟩]
 have := toIntS_l N a (by omega) a.length N 0 (by omega) hs
 simpa [Ty.dflt] using this
theorem szIntS_v {N : Nat} {a : List Int} {l : Int} (hl : 0 ≤ l) (hl2 : l ≤ 1048576) (hs : a.length ≤ 9223372036854775807) : F100 N a l = some (if (a.length : Int) ≤ l then l - a.length else -1) := by
 unfold F100
 rw [w64 (by omega) (by omega)]
 by_cases h : (a.length : Int) ≤ l
 ·simp [h, show ¬ l - (a.length : Int) < 0 by omega]
 ·simp [h, show l - (a.length : Int) < 0 by omega]
end Go.Proofs.Ytjbahkjjgciooaa.Vc
namespace Go.Proofs.Ytjbahkjjgciooaa.Vc
open Go Go.RowKit
set_option linter.unusedVariables false
set_option linter.unusedSimpArgs false
theorem l01In_v (N : Nat) (x a b : Int) : F62 N x a b = some (decide (a ≤ x ∧ x ≤ b)) := by
 unfold F62
 by_cases h : a ≤ x <;> simp [h]
theorem in_v (N : Nat) (x a b : Int) : F91 N x a b = some (decide (a ≤ x ∧ x ≤ b)) := by
 unfold F91
 by_cases h : x ≥ a <;> simp [h]
def Num (x : Int) : Prop := -1000000 ≤ x ∧ x ≤ 1000000
instance (x : Int) : Decidable (Num x) := inferInstanceAs (Decidable (-1000000 ≤ x ∧ x ≤ 1000000))
theorem l01Number_v (N : Nat) (x : Int) : F117 N x = some (decide (Num x)) := by
 unfold F117
 rw [l01In_v, andO_of]
 rfl
theorem isNum_v (N : Nat) (x : Int) : F126 N x = some (decide (Num x)) := by
 unfold F126
 rw [in_v, andO_of]
 rfl
end Go.Proofs.Ytjbahkjjgciooaa.Vc
namespace Go.Proofs.Ytjbahkjjgciooaa.Vc
open Go Go.RowKit
set_option linter.unusedVariables false
set_option linter.unusedSimpArgs false
abbrev Nd := Int × (ByteArray × (Int × (Int × (Int × (Bool × List Int)))))
def allF (f : Nat → Bool) : Nat → Nat → Bool
 | _, 0 => true
 | i, d + 1 => f i && allF f (i + 1) d
theorem allF_congr {f g : Nat → Bool} : ∀ {d i : Nat}, (∀ j, i ≤ j → f j = g j) → allF f i d = allF g i d
 | 0, i, h => rfl
 | d + 1, i, h => by
  rw [allF, allF, h i (Nat.le_refl _), allF_congr (fun j hj => h j (by omega))]
def chr (w : ByteArray) (i : Nat) : Int := ((w.data.getD i 0).toNat : Int)
def okI (w : ByteArray) (i : Nat) : Bool := decide ((97 ≤ chr w i ∧ chr w i ≤ 122) ∨ (i ≠ 0 ∧ 48 ≤ chr w i ∧ chr w i ≤ 57))
def okS (w : ByteArray) (i : Nat) : Bool := decide ((97 ≤ chr w i ∧ chr w i ≤ 122) ∨ (48 ≤ chr w i ∧ chr w i ≤ 57))
def wordB (w : ByteArray) : Bool := allF (okI w) 0 w.size && decide (1 ≤ (w.size : Int) ∧ (w.size : Int) ≤ 12)
theorem iWord_l (N : Nat) (a : ByteArray) (hs : a.size < 4611686018427387904) : ∀ (d k i : Nat), i + d = a.size → d < k → F159_l0 N a k (a.size : Int) (i : Int) = some (allF (okI a) i d && decide (1 ≤ (a.size : Int) ∧ (a.size : Int) ≤ 12)) := by
 intro d
 induction d with
 | zero =>
  intro k i h hk
  rw [F159_l0_s _ _ (by omega), F159_l0_b]
  simp only [show ¬ (i : Int) < (a.size : Int) by omega, decide_false, cond_false, F159_j0, in_v, andO_of, allF, Bool.true_and]
 | succ d ih =>
  intro k i h hk
  have hi : i < a.size := by omega
  have e0 : (((i : Nat) : Int) == 0) = decide (i = 0) := by
   rw [Bool.eq_iff_iff]; simp
  rw [F159_l0_s _ _ (by omega), F159_l0_b]
  simp only [show (i : Int) < (a.size : Int) by omega, decide_true, cond_true, gd_true (inR hi), Int.toNat_natCast, F159_j1, e0]
  rw [w64 (by omega) (by omega), show ((i : Int) + 1) = ((i + 1 : Nat) : Int) by omega, ih (k - 1) (i + 1) (by omega) (by omega)]
  simp only [allF, okI, chr]
  obtain ⟨c, hc⟩ : ∃ c : Int, ((a.data.getD i 0).toNat : Int) = c := ⟨_, rfl⟩
  simp only [hc]
  have hd : ∀ (φ : Prop) [Decidable φ], φ → decide φ = true := fun φ _ h => by simp [h]
  have hn : ∀ (φ : Prop) [Decidable φ], ¬ φ → decide φ = false := fun φ _ h => by simp [h]
  by_cases ho : (97 ≤ c ∧ c ≤ 122) ∨ (i ≠ 0 ∧ 48 ≤ c ∧ c ≤ 57)
  ·rw [hd _ ho, Bool.true_and]
   by_cases h1 : c ≥ 97
   ·by_cases h2 : c ≤ 122
    ·simp only [hd _ h1, hd _ h2, cond_true, Bool.not_true, cond_false]
    ·exfalso; omega
   ·rw [hn _ h1, cond_false, hn _ (show ¬ i = 0 by omega), cond_false, hn _ (show ¬ c < 48 by omega), cond_false, hn _ (show ¬ c > 57 by omega), cond_false]
  ·rw [hn _ ho, Bool.false_and]
   by_cases h1 : c ≥ 97
   ·by_cases h2 : c ≤ 122
    ·exfalso; omega
    ·simp only [hd _ h1, hn _ h2, cond_true, Bool.not_false, hn _ (show ¬ c < 48 by omega), hd _ (show c > 57 by omega), cond_false]
     cases decide (i = 0) <;> rfl
   ·rw [hn _ h1, cond_false]
    by_cases h0 : i = 0
    ·rw [hd _ h0, cond_true]; rfl
    ·rw [hn _ h0, cond_false]
     by_cases h3 : c < 48
     ·rw [hd _ h3, cond_true]; rfl
     ·rw [hn _ h3, cond_false, hd _ (show c > 57 by omega), cond_true]; rfl
theorem iWord_v {N : Nat} {a : ByteArray} (hs : a.size < N) (hN : a.size < 4611686018427387904) : F159 N a = some (wordB a) := by
 unfold F159
 exact iWord_l N a hN a.size N 0 (by omega) hs
theorem sWord_l (N : Nat) (a : ByteArray) (hs : a.size < 4611686018427387904) : ∀ (d k i : Nat), i + d = a.size → d < k → F146_l0 N a k (i : Int) = some (allF (okS a) i d) := by
 intro d
 induction d with
 | zero =>
  intro k i h hk
  rw [F146_l0_s _ _ (by omega), F146_l0_b]
  simp only [show ¬ (i : Int) < (a.size : Int) by omega, decide_false, cond_false, F146_j0, allF]
 | succ d ih =>
  intro k i h hk
  have hi : i < a.size := by omega
  rw [F146_l0_s _ _ (by omega), F146_l0_b]
  simp only [show (i : Int) < (a.size : Int) by omega, decide_true, cond_true, gd_true (inR hi), Int.toNat_natCast, F146_j1]
  rw [w64 (by omega) (by omega), show ((i : Int) + 1) = ((i + 1 : Nat) : Int) by omega, ih (k - 1) (i + 1) (by omega) (by omega)]
  simp only [allF, okS, chr]
  obtain ⟨c, hc⟩ : ∃ c : Int, ((a.data.getD i 0).toNat : Int) = c := ⟨_, rfl⟩
  simp only [hc]
  have hd : ∀ (φ : Prop) [Decidable φ], φ → decide φ = true := fun φ _ h => by simp [h]
  have hn : ∀ (φ : Prop) [Decidable φ], ¬ φ → decide φ = false := fun φ _ h => by simp [h]
  by_cases ho : (97 ≤ c ∧ c ≤ 122) ∨ (48 ≤ c ∧ c ≤ 57)
  ·rw [hd _ ho, Bool.true_and]
   by_cases h1 : c < 97
   ·simp only [hd _ h1, hn _ (show ¬ c < 48 by omega), hn _ (show ¬ c > 57 by omega), cond_true, cond_false]
   ·simp only [hn _ h1, hn _ (show ¬ c > 122 by omega), cond_false]
  ·rw [hn _ ho, Bool.false_and]
   by_cases h1 : c < 97
   ·by_cases h3 : c < 48
    ·simp only [hd _ h1, hd _ h3, cond_true]
    ·simp only [hd _ h1, hn _ h3, hd _ (show c > 57 by omega), cond_true, cond_false]
   ·simp only [hn _ h1, hd _ (show c > 122 by omega), cond_false, cond_true, hn _ (show ¬ c < 48 by omega), hd _ (show c > 57 by omega)]
theorem sWord_v {N : Nat} {a : ByteArray} (hs : a.size < N) (hN : a.size < 4611686018427387904) : F146 N a = some (wordB a) := by
 unfold F146
 rw [l01In_v, andO_of, wordB]
 by_cases hl : 1 ≤ (a.size : Int) ∧ (a.size : Int) ≤ 12
 ·have h0 : 0 < a.size := by omega
  simp only [hl, and_self, decide_true, Bool.not_true, cond_false, Bool.and_true]
  rw [gd_true (by simp only [InR]; omega)]
  have hl := sWord_l N a hN a.size N 0 (by omega) hs
  rw [show ((0 : Int)) = ((0 : Nat) : Int) from rfl, hl]
  obtain ⟨n, hn⟩ : ∃ n, a.size = n + 1 := ⟨a.size - 1, by omega⟩
  rw [hn]
  simp only [allF, Int.toNat_natCast]
  have hcg : ∀ j : Nat, 0 + 1 ≤ j → okI a j = okS a j := by
   intro j hj
   have : j ≠ 0 := by omega
   simp only [okI, okS, ne_eq, this, not_false_eq_true, true_and]
  rw [allF_congr hcg]
  have hc : okI a 0 = (decide (¬ chr a 0 < 97) && okS a 0) := by
   simp only [okI, okS, ne_eq, not_true_eq_false, false_and, or_false]
   rw [Bool.eq_iff_iff]
   simp only [Bool.and_eq_true, decide_eq_true_eq]
   omega
  rw [hc]
  show cond (decide (chr a 0 < 97)) _ _ = _
  by_cases h9 : chr a 0 < 97
  ·simp [h9]
  ·simp [h9]
 ·simp [hl]
theorem isCol_v (N : Nat) (x : Int) : F160 N x = some (decide (0 ≤ x ∧ x ≤ 63)) := by
 unfold F160
 rw [in_v, andO_of]
theorem isSlot_v (N : Nat) (x : Int) : F161 N x = some (decide (0 ≤ x ∧ x ≤ 39)) := by
 unfold F161
 rw [in_v, andO_of]
theorem l02Col_v (N : Nat) (x : Int) : F147 N x = some (decide (0 ≤ x ∧ x ≤ 63)) := by
 unfold F147
 rw [l01In_v, andO_of]
theorem idxFuncI_l (N : Nat) (a : List Int) (p : Int → Option Bool) (q : Int → Bool) (hp : ∀ x ∈ a, p x = some (q x)) (hs : a.length < 4611686018427387904) : ∀ (d k i : Nat), i + d = a.length → d < k →
  ∃ r : Int, F169_l0 N a p k (a.length : Int) (i : Int) = some r ∧ decide (r ≥ 0) = (a.drop i).any q := by
 intro d
 induction d with
 | zero =>
  intro k i h hk
  rw [F169_l0_s _ _ _ (by omega), F169_l0_b]
  refine ⟨-1, by simp only [show ¬ (i : Int) < (a.length : Int) by omega, decide_false, cond_false, F169_j0], ?_⟩
  rw [List.drop_eq_nil_of_le (by omega)]
  rfl
 | succ d ih =>
  intro k i h hk
  have hi : i < a.length := by omega
  rw [F169_l0_s _ _ _ (by omega), F169_l0_b]
  simp only [show (i : Int) < (a.length : Int) by omega, decide_true, cond_true, gd_true (inR hi), Int.toNat_natCast, getD_at hi, hp _ (List.getElem_mem hi), andO_of]
  rw [w64 (by omega) (by omega), show ((i : Int) + 1) = ((i + 1 : Nat) : Int) by omega, List.drop_eq_getElem_cons hi, List.any_cons]
  by_cases hx : q a[i] = true
  ·rw [hx]
   exact ⟨i, rfl, by simp⟩
  ·have hx' : q a[i] = false := by simpa using hx
   rw [hx']
   obtain ⟨r, h1, h2⟩ := ih (k - 1) (i + 1) (by omega) (by omega)
   exact ⟨r, h1, by simpa using h2⟩
theorem contFuncI_v {N : Nat} {a : List Int} {p : Int → Option Bool} {q : Int → Bool} (hp : ∀ x ∈ a, p x = some (q x)) (hs : a.length < N) (hN : a.length < 4611686018427387904) : F162 N a p = some (a.any q) := by
 unfold F162 F169
 obtain ⟨r, h1, h2⟩ := idxFuncI_l N a p q hp hN a.length N 0 (by omega) hs
 rw [show (0 : Int) = ((0 : Nat) : Int) from rfl, h1, andO_of]
 rw [show ((0 : Nat) : Int) = (0 : Int) from rfl, h2]
 rfl
theorem idxFuncN_l (N : Nat) (a : List Nd) (p : Nd → Option Bool) (q : Nd → Bool) (hp : ∀ x ∈ a, p x = some (q x)) (hs : a.length < 4611686018427387904) : ∀ (d k i : Nat), i + d = a.length → d < k →
  ∃ r : Int, F158_l0 N a p k (a.length : Int) (i : Int) = some r ∧ decide (r ≥ 0) = (a.drop i).any q := by
 intro d
 induction d with
 | zero =>
  intro k i h hk
  rw [F158_l0_s _ _ _ (by omega), F158_l0_b]
  refine ⟨-1, by simp only [show ¬ (i : Int) < (a.length : Int) by omega, decide_false, cond_false, F158_j0], ?_⟩
  rw [List.drop_eq_nil_of_le (by omega)]
  rfl
 | succ d ih =>
  intro k i h hk
  have hi : i < a.length := by omega
  rw [F158_l0_s _ _ _ (by omega), F158_l0_b]
  simp only [show (i : Int) < (a.length : Int) by omega, decide_true, cond_true, gd_true (inR hi), Int.toNat_natCast, getD_at hi, hp _ (List.getElem_mem hi), andO_of]
  rw [w64 (by omega) (by omega), show ((i : Int) + 1) = ((i + 1 : Nat) : Int) by omega, List.drop_eq_getElem_cons hi, List.any_cons]
  by_cases hx : q a[i] = true
  ·rw [hx]
   exact ⟨i, rfl, by simp⟩
  ·have hx' : q a[i] = false := by simpa using hx
   rw [hx']
   obtain ⟨r, h1, h2⟩ := ih (k - 1) (i + 1) (by omega) (by omega)
   exact ⟨r, h1, by simpa using h2⟩
theorem contFuncN_v {N : Nat} {a : List Nd} {p : Nd → Option Bool} {q : Nd → Bool} (hp : ∀ x ∈ a, p x = some (q x)) (hs : a.length < N) (hN : a.length < 4611686018427387904) : F123 N a p = some (a.any q) := by
 unfold F123 F158
 obtain ⟨r, h1, h2⟩ := idxFuncN_l N a p q hp hN a.length N 0 (by omega) hs
 rw [show (0 : Int) = ((0 : Nat) : Int) from rfl, h1, andO_of]
 rw [show ((0 : Nat) : Int) = (0 : Int) from rfl, h2]
 rfl
theorem equalI_l (N : Nat) (a b : List Int) (hl : a.length = b.length) (hs : a.length < 4611686018427387904) : ∀ (d k i : Nat), i + d = a.length → d < k → F138_l0 N a b k (a.length : Int) (i : Int) = some (decide (a.drop i = b.drop i)) := by
 intro d
 induction d with
 | zero =>
  intro k i h hk
  rw [F138_l0_s _ _ _ (by omega), F138_l0_b]
  simp only [show ¬ (i : Int) < (a.length : Int) by omega, decide_false, cond_false, F138_j0]
  rw [List.drop_eq_nil_of_le (by omega), List.drop_eq_nil_of_le (by omega)]
  rfl
 | succ d ih =>
  intro k i h hk
  have hi : i < a.length := by omega
  have hi' : i < b.length := by omega
  rw [F138_l0_s _ _ _ (by omega), F138_l0_b]
  simp only [show (i : Int) < (a.length : Int) by omega, decide_true, cond_true, gd_true (inR hi), gd_true (inR hi'), Int.toNat_natCast, getD_at hi, getD_at hi']
  rw [w64 (by omega) (by omega), show ((i : Int) + 1) = ((i + 1 : Nat) : Int) by omega, ih (k - 1) (i + 1) (by omega) (by omega)]
  by_cases hx : a[i] = b[i]
  ·simp only [hx, bne_self_eq_false, cond_false, drop_eq_iff hi hi', true_and]
  ·have : (a[i] != b[i]) = true := by simp [hx]
   simp only [this, cond_true, drop_eq_iff hi hi', hx, false_and, decide_false]
theorem equalI_v {N : Nat} {a b : List Int} (hs : a.length < N) (hN : a.length < 4611686018427387904) : F138 N a b = some (decide (a = b)) := by
 unfold F138
 rw [bne_len]
 by_cases hl : a.length = b.length
 ·simp only [hl, ne_eq, not_true_eq_false, decide_false, cond_false]
  have := equalI_l N a b hl hN a.length N 0 (by omega) hs
  rw [hl] at this
  simpa using this
 ·have : a ≠ b := fun e => hl (by rw [e])
  simp [hl, this]
def sameB (a b : Nd) : Bool := a.1 == b.1 && (a.2.1.toList == b.2.1.toList && (a.2.2.1 == b.2.2.1 && (a.2.2.2.1 == b.2.2.2.1 && (a.2.2.2.2.1 == b.2.2.2.2.1 && (a.2.2.2.2.2.1 == b.2.2.2.2.2.1 && decide (a.2.2.2.2.2.2 = b.2.2.2.2.2.2))))))
theorem cond_and (a b : Bool) : (cond a (some b) (some false)) = some (a && b) := by cases a <;> rfl
theorem sameNode_v {N : Nat} {a b : Nd} (hs : a.2.2.2.2.2.2.length < N) (hN : a.2.2.2.2.2.2.length < 4611686018427387904) : F94 N a b = some (sameB a b) := by
 unfold F94
 rw [equalI_v hs hN, andO_of]
 simp only [cond_and, sameB]
def nodeB (a : Nd) : Bool :=
 let e := a.2.1.toList == ByteArray.empty.toList
 let col := decide (0 ≤ a.2.2.1 ∧ a.2.2.1 ≤ 63)
 let cz := a.2.2.1 == 0
 let oz := a.2.2.2.1 == 0
 let nz := a.2.2.2.2.1 == 0
 let sl := a.2.2.2.2.2.1
 let nc := decide (a.2.2.2.2.2.2 = [])
 let s39 := decide (0 ≤ a.2.2.2.2.1 ∧ a.2.2.2.2.1 ≤ 39)
 cond (a.1 == 0) (wordB a.2.1 && cz && oz && nz && !sl && nc)
  (cond (a.1 == 1) (e && nc && col && decide (0 ≤ a.2.2.2.1 ∧ a.2.2.2.1 ≤ 3) && (cond (a.2.2.2.1 == 3) (nz && !sl) (cond sl s39 (decide (Num a.2.2.2.2.1)))))
  (cond (a.1 == 2) (e && decide (1 ≤ (a.2.2.2.2.2.2.length : Int) ∧ (a.2.2.2.2.2.2.length : Int) ≤ 6) && a.2.2.2.2.2.2.all (fun x => decide (0 ≤ x ∧ x ≤ 63)) && cz && oz && nz && !sl)
  (cond (a.1 == 3) (e && nc && col && decide (0 ≤ a.2.2.2.2.1 ∧ a.2.2.2.2.1 ≤ 63) && oz && !sl)
  (cond (a.1 == 5) (e && nc && col && nz && oz && !sl)
  (cond (a.1 == 6) (e && nc && decide (0 ≤ a.2.2.2.2.1 ∧ a.2.2.2.2.1 ≤ 1000000) && (!sl || s39) && cz && oz)
  ((a.1 == 4 || a.1 == 7) && e && nc && cz && oz && nz && !sl))))))
theorem nodeOk_j0 {N : Nat} (b : ByteArray) (c d e : Int) (s : Bool) (l : List Int) (g : Bool) (hs : l.length < N) (hN : l.length < 4611686018427387904) : F125_j0 N b c d e s l g = some (g && ((b.toList == ByteArray.empty.toList) && (c == 0 && (d == 0 && (e == 0 && (!s && decide (l = []))))))) := by
 unfold F125_j0
 rw [sameNode_v hs hN, andO_of, cond_and]
 simp only [sameB, beq_self_eq_true, Bool.true_and]
 cases s <;> simp
theorem iNodeOk1_v (N : Nat) (x : Int) : F163 N x = some (!decide (0 ≤ x ∧ x ≤ 63)) := by
 unfold F163
 rw [isCol_v, andO_of]
theorem iNodeOk_v {N : Nat} {a : Nd} (h0 : 0 < N) (hw : a.2.1.size < N) (hs : a.2.2.2.2.2.2.length < N) (hN : a.2.2.2.2.2.2.length < 4611686018427387904) (hw2 : a.2.1.size < 4611686018427387904) : F125 N a = some (nodeB a) := by
 obtain ⟨kind, name, col, op, num, slot, cols⟩ := a
 simp only at hw hs hN hw2
 unfold F125
 have hany : (cols.any fun x => !decide (0 ≤ x ∧ x ≤ 63)) = !(cols.all fun x => decide (0 ≤ x ∧ x ≤ 63)) := by
  rw [List.not_all_eq_any_not]
 simp only [F125_j1, F125_j2, F125_j3, nodeOk_j0 _ _ _ _ _ _ _ hs hN, nodeOk_j0 _ _ _ _ _ ([] : List Int) _ (show ([] : List Int).length < N from h0) (show ([] : List Int).length < 4611686018427387904 by simp), iWord_v hw hw2, isCol_v, isSlot_v, isNum_v, in_v, andO_of,
  contFuncI_v (p := fun z0 => F163 N z0) (q := fun x => !decide (0 ≤ x ∧ x ≤ 63)) (fun x _ => iNodeOk1_v N x) hs hN, hany, nodeB, beq_self_eq_true, Bool.true_and, Bool.not_not, decide_true]
 generalize (name.toList == ByteArray.empty.toList) = e
 generalize wordB name = w
 generalize (decide (0 ≤ col ∧ col ≤ 63)) = cB
 generalize (decide (0 ≤ op ∧ op ≤ 3)) = oB
 generalize (decide (Num num)) = nB
 generalize (decide (0 ≤ num ∧ num ≤ 39)) = s39
 generalize (decide (0 ≤ num ∧ num ≤ 63)) = n63
 generalize (decide (0 ≤ num ∧ num ≤ 1000000)) = nL
 generalize (decide (1 ≤ (cols.length : Int) ∧ (cols.length : Int) ≤ 6)) = lB
 generalize (cols.all fun x => decide (0 ≤ x ∧ x ≤ 63)) = aB
 generalize (decide (cols = [])) = nc
 generalize (col == 0) = cz
 generalize (op == 0) = oz
 generalize (num == 0) = nz
 generalize (op == 3) = o3
 generalize (kind == 0) = q0
 generalize (kind == 1) = q1
 generalize (kind == 2) = q2
 generalize (kind == 3) = q3
 generalize (kind == 4) = q4
 generalize (kind == 5) = q5
 generalize (kind == 6) = q6
 generalize (kind == 7) = q7
 clear hany
 cases q0 <;> simp only [cond_true, cond_false]
 cases q1 <;> simp only [cond_true, cond_false]
 cases q2 <;> simp only [cond_true, cond_false]
 cases q3 <;> simp only [cond_true, cond_false]
 cases q5 <;> simp only [cond_true, cond_false]
 cases q6 <;> simp only [cond_true, cond_false]
 ·revert q4 q7 e nc cz oz nz slot; decide +kernel
 ·revert e nc nL slot s39 cz oz; decide +kernel
 ·revert e nc cB nz oz slot; decide +kernel
 ·revert e nc cB n63 oz slot; decide +kernel
 ·revert e lB aB cz oz nz slot; decide +kernel
 ·revert e nc cB oB o3 nz slot s39 nB; decide +kernel
 ·revert w cz oz nz slot nc; decide +kernel
theorem sNode_l (N : Nat) (c n : Int) (sl : Bool) (a : List Int) (hs : a.length < 4611686018427387904) : ∀ (d k i : Nat), i + d = a.length → d < k → F108_l0 N c n sl a k (i : Int) = some ((a.drop i).all (fun x => decide (0 ≤ x ∧ x ≤ 63)) && (decide (1 ≤ (a.length : Int) ∧ (a.length : Int) ≤ 6) && (c == 0 && (n == 0 && !sl)))) := by
 intro d
 induction d with
 | zero =>
  intro k i h hk
  rw [F108_l0_s _ _ _ _ _ (by omega), F108_l0_b]
  simp only [show ¬ (i : Int) < (a.length : Int) by omega, decide_false, cond_false, F108_j1, l01In_v, andO_of, cond_and]
  rw [List.drop_eq_nil_of_le (by omega)]
  rfl
 | succ d ih =>
  intro k i h hk
  have hi : i < a.length := by omega
  rw [F108_l0_s _ _ _ _ _ (by omega), F108_l0_b]
  simp only [show (i : Int) < (a.length : Int) by omega, decide_true, cond_true, gd_true (inR hi), Int.toNat_natCast, getD_at hi, l02Col_v, andO_of]
  rw [w64 (by omega) (by omega), show ((i : Int) + 1) = ((i + 1 : Nat) : Int) by omega, ih (k - 1) (i + 1) (by omega) (by omega), List.drop_eq_getElem_cons hi, List.all_cons]
  generalize (decide (0 ≤ a[i] ∧ a[i] ≤ 63)) = b
  cases b <;> simp
theorem sNodeOk_v {N : Nat} {a : Nd} (hw : a.2.1.size < N) (hs : a.2.2.2.2.2.2.length < N) (hN : a.2.2.2.2.2.2.length < 4611686018427387904) (hw2 : a.2.1.size < 4611686018427387904) : F108 N a = some (nodeB a) := by
 obtain ⟨kind, name, col, op, num, slot, cols⟩ := a
 simp only at hw hs hN hw2
 unfold F108
 have hlen : (decide ((cols.length : Int) > 0)) = !decide (cols = []) := by
  cases cols with
  | nil => rfl
  | cons x l => simp
 have hl := sNode_l N col num slot cols hN cols.length N 0 (by omega) hs
 rw [show (((0 : Nat)) : Int) = 0 from rfl, List.drop_zero] at hl
 simp only [F108_j0, F108_j2, F108_j3, hl, sWord_v hw hw2, l02Col_v, l01Number_v, l01In_v, andO_of, hlen, nodeB, bne]
 have i1 : num == 0 → decide (Num num) := by
  intro h; have : num = 0 := by simpa using h
  subst this; decide
 have i2 : decide (0 ≤ num ∧ num ≤ 39) → decide (Num num) := by
  intro h; have : 0 ≤ num ∧ num ≤ 39 := by simpa using h
  exact decide_eq_true (show -1000000 ≤ num ∧ num ≤ 1000000 by omega)
 have x01 : kind == 0 → (kind == 1) = false := by
  intro h; have : kind = 0 := by simpa using h
  subst this; decide
 have x02 : kind == 0 → (kind == 2) = false := by
  intro h; have : kind = 0 := by simpa using h
  subst this; decide
 have x12 : kind == 1 → (kind == 2) = false := by
  intro h; have : kind = 1 := by simpa using h
  subst this; decide
 clear hl hlen
 generalize (name.toList == ByteArray.empty.toList) = e
 generalize wordB name = w
 generalize (decide (0 ≤ col ∧ col ≤ 63)) = cB
 generalize (decide (0 ≤ op ∧ op ≤ 3)) = oB
 generalize (decide (Num num)) = nB at i1 i2 ⊢
 generalize (decide (0 ≤ num ∧ num ≤ 39)) = s39 at i2 ⊢
 generalize (decide (0 ≤ num ∧ num ≤ 63)) = n63
 generalize (decide (0 ≤ num ∧ num ≤ 1000000)) = nL
 generalize (decide (1 ≤ (cols.length : Int) ∧ (cols.length : Int) ≤ 6)) = lB
 generalize (cols.all fun x => decide (0 ≤ x ∧ x ≤ 63)) = aB
 generalize (decide (cols = [])) = nc
 generalize (col == 0) = cz
 generalize (op == 0) = oz
 generalize (num == 0) = nz at i1 ⊢
 generalize (op == 3) = o3
 generalize (kind == 0) = q0 at x01 x02 ⊢
 generalize (kind == 1) = q1 at x01 x12 ⊢
 generalize (kind == 2) = q2 at x02 x12 ⊢
 generalize (kind == 3) = q3
 generalize (kind == 4) = q4
 generalize (kind == 5) = q5
 generalize (kind == 6) = q6
 generalize (kind == 7) = q7
 cases q0
 ·cases q1
  ·cases q2 <;> simp only [cond_true, cond_false, Bool.not_true, Bool.not_false]
   ·cases q3 <;> simp only [cond_true, cond_false]
    ·cases q5 <;> simp only [cond_true, cond_false]
     ·cases q6 <;> simp only [cond_true, cond_false]
      ·clear i1 i2 x01 x02 x12; revert q4 q7 e nc cz oz nz slot s39; decide +kernel
      ·clear i1 i2 x01 x02 x12; revert e nc nL slot s39 cz oz; decide +kernel
     ·clear i1 i2 x01 x02 x12; revert e nc cB nz oz slot s39; decide +kernel
    ·clear i1 i2 x01 x02 x12; revert e nc cB n63 oz slot s39; decide +kernel
   ·clear i1 i2 x01 x02 x12; revert e lB aB cz oz nz slot s39; decide +kernel
  ·have := x12 rfl; subst this
   simp only [cond_true, cond_false, Bool.not_true, Bool.not_false]
   clear x01 x02 x12
   revert i1 i2
   revert e nc cB oB o3 nz slot s39 nB; decide +kernel
 ·have h1 := x01 rfl; have h2 := x02 rfl; subst h1; subst h2
  simp only [cond_true, cond_false, Bool.not_true, Bool.not_false]
  clear i1 i2 x01 x02 x12
  revert e w cz oz nz slot nc s39; decide +kernel
end Go.Proofs.Ytjbahkjjgciooaa.Vc
namespace Go.Proofs.Ytjbahkjjgciooaa.Vc
open Go Go.RowKit
set_option linter.unusedVariables false
set_option linter.unusedSimpArgs false
abbrev ndT : Ty := .pair (.int .i64) (.pair .str (.pair (.int .i64) (.pair (.int .i64) (.pair (.int .i64) (.pair .bool (.sl (.int .i64)))))))
def Fits (p : List Nd) : Prop := p.length ≤ 1048576 ∧ ∀ x ∈ p, x.2.1.size ≤ 1048576 ∧ x.2.2.2.2.2.2.length ≤ 1048576
def Len (p : List Nd) : Prop := p.length ≤ 9223372036854775807 ∧ ∀ x ∈ p, x.2.1.size ≤ 9223372036854775807 ∧ x.2.2.2.2.2.2.length ≤ 9223372036854775807
theorem len_of {p : List Nd} (h : (Ty.sl ndT).wf p) : Len p := by
 refine ⟨h.1, fun x hx => ?_⟩
 have h1 := h.2 x hx
 exact ⟨h1.2.1, h1.2.2.2.2.2.2.1⟩
theorem szNode_v {N : Nat} {a : Nd} {l : Int} (hl : 0 ≤ l) (hl2 : l ≤ 1048576) (h1 : a.2.1.size ≤ 9223372036854775807) (h2 : a.2.2.2.2.2.2.length ≤ 9223372036854775807) :
  ∃ r : Int, F56 N a l = some r ∧ r ≤ l ∧ (r < 0 → r = -1) ∧ (0 ≤ r → a.2.1.size ≤ 1048576 ∧ a.2.2.2.2.2.2.length ≤ 1048576) := by
 unfold F56
 rw [w64 (by omega) (by omega)]
 by_cases hb : l - (a.2.1.size : Int) < 0
 ·exact ⟨-1, by simp [hb], by omega, fun _ => rfl, fun h => absurd h (by omega)⟩
 ·rw [szIntS_v (by omega) (by omega) h2, andO_of]
  by_cases hc : (a.2.2.2.2.2.2.length : Int) ≤ l - (a.2.1.size : Int)
  ·refine ⟨l - (a.2.1.size : Int) - a.2.2.2.2.2.2.length, ?_, by omega, by omega, fun _ => by omega⟩
   simp only [hb, hc, decide_false, cond_false, if_true, show ¬ l - (a.2.1.size : Int) - a.2.2.2.2.2.2.length < 0 by omega]
  ·exact ⟨-1, by simp [hb, hc], by omega, fun _ => rfl, fun h => absurd h (by omega)⟩
theorem szNodeS_l (N : Nat) (a : List Nd) (hL : Len a) (hs : a.length < 4611686018427387904) : ∀ (d k i : Nat) (l : Int), i + d = a.length → d < k → 0 ≤ l → l ≤ 1048576 →
  ∃ r : Int, F15_l0 N a k l (i : Int) = some r ∧ r ≤ l ∧ (r < 0 → r = -1) ∧ (0 ≤ r → ∀ x ∈ a.drop i, x.2.1.size ≤ 1048576 ∧ x.2.2.2.2.2.2.length ≤ 1048576) := by
 intro d
 induction d with
 | zero =>
  intro k i l h hk h0 h1
  rw [F15_l0_s _ _ (by omega), F15_l0_b]
  refine ⟨l, by simp only [show ¬ (i : Int) < (a.length : Int) by omega, decide_false, cond_false, F15_j0], by omega, by omega, fun _ => ?_⟩
  rw [List.drop_eq_nil_of_le (by omega)]
  intro x hx; cases hx
 | succ d ih =>
  intro k i l h hk h0 h1
  have hi : i < a.length := by omega
  rw [F15_l0_s _ _ (by omega), F15_l0_b]
  obtain ⟨r, e1, e2, e3, e4⟩ := szNode_v (N := N) (a := a[i]) h0 h1 (hL.2 _ (List.getElem_mem hi)).1 (hL.2 _ (List.getElem_mem hi)).2
  simp only [show (i : Int) < (a.length : Int) by omega, decide_true, cond_true, gd_true (inR hi), Int.toNat_natCast, getD_at hi, e1, andO_of]
  rw [w64 (by omega) (by omega), show ((i : Int) + 1) = ((i + 1 : Nat) : Int) by omega]
  by_cases hr : r < 0
  ·exact ⟨-1, by simp [hr], by omega, fun _ => rfl, fun h => absurd h (by omega)⟩
  ·obtain ⟨r', f1, f2, f3, f4⟩ := ih (k - 1) (i + 1) r (by omega) (by omega) (by omega) (by omega)
   refine ⟨r', by simp only [hr, decide_false, cond_false, f1], by omega, f3, fun h => ?_⟩
   rw [List.drop_eq_getElem_cons hi]
   intro x hx
   rcases List.mem_cons.mp hx with rfl | hx
   ·exact e4 (by omega)
   ·exact f4 h x hx
theorem szNodeS_v {N : Nat} {a : List Nd} {l : Int} (hL : Len a) (hN : 1048576 < N) (h0 : 0 ≤ l) (h1 : l ≤ 1048576) :
  ∃ r : Int, F15 N a l = some r ∧ r ≤ l ∧ (r < 0 → r = -1) ∧ (0 ≤ r → Fits a) := by
 unfold F15
 have := hL.1
 rw [w64 (by omega) (by omega)]
 by_cases hb : l - (a.length : Int) < 0
 ·exact ⟨-1, by simp [hb], by omega, fun _ => rfl, fun h => absurd h (by omega)⟩
 ·obtain ⟨r, e1, e2, e3, e4⟩ := szNodeS_l N a hL (by omega) a.length N 0 (l - a.length) (by omega) (by omega) (by omega) (by omega)
  refine ⟨r, ?_, by omega, e3, fun h => ⟨by omega, by simpa using e4 h⟩⟩
  rw [decide_eq_false hb, cond_false]
  exact e1
theorem toNode_v {N : Nat} {a : Nd} (h1 : a.2.2.2.2.2.2.length ≤ 1048576) (hN : 1048576 < N) : F57 N a = some a := by
 unfold F57
 rw [toIntS_v (by omega) (by omega), andO_of]
theorem toNodeS_l (N : Nat) (a : List Nd) (hf : Fits a) (hN : 1048576 < N) : ∀ (d k i : Nat) (u : List Nd), i + d = a.length → u.length = d → d < k → F17_l0 N a k (a.take i ++ u) (i : Int) = some a := by
 intro d
 have hs := hf.1
 induction d with
 | zero =>
  intro k i u h hu hk
  rw [F17_l0_s _ _ (by omega), F17_l0_b]
  obtain rfl : u = [] := List.length_eq_zero_iff.mp hu
  simp only [show ¬ (i : Int) < (a.length : Int) by omega, decide_false, cond_false, F17_j0, List.append_nil]
  rw [List.take_of_length_le (by omega)]
 | succ d ih =>
  intro k i u h hu hk
  have hi : i < a.length := by omega
  cases u with
  | nil => simp at hu
  | cons y u =>
   simp only [List.length_cons] at hu
   have hl : (a.take i ++ y :: u).length = a.length := by simp; omega
   rw [F17_l0_s _ _ (by omega), F17_l0_b]
   simp only [hl, show (i : Int) < (a.length : Int) by omega, decide_true, cond_true, gd_true (inR hi), Int.toNat_natCast, gd_true hi, getD_at hi, toNode_v (hf.2 _ (List.getElem_mem hi)).2 hN, andO_of]
   rw [w64 (x := (i : Int) + 1) (by omega) (by omega), show ((i : Int) + 1) = ((i + 1 : Nat) : Int) by omega]
   have hset : (a.take i ++ y :: u).set i a[i] = a.take (i + 1) ++ u := by
    rw [List.set_append_right _ _ (by simp; omega)]
    have : i - (a.take i).length = 0 := by simp; omega
    rw [this, List.set_cons_zero, List.take_succ_eq_append_getElem hi, List.append_assoc, List.singleton_append]
   rw [hset]
   exact ih (k - 1) (i + 1) u (by omega) (by omega) (by omega)
theorem lim_nd : 1048576 ≤ lim ndT := by decide +kernel
theorem toNodeS_v {N : Nat} {a : List Nd} (hf : Fits a) (hN : 1048576 < N) : F17 N a = some a := by
 unfold F17
 have hs := hf.1
 have hl := lim_nd
 rw [gd_true ⟨by omega, by show (a.length : Int) ≤ (lim ndT : Int); omega, rfl⟩]
 have := toNodeS_l N a hf hN a.length N 0 (List.replicate a.length (Ty.dflt ndT)) (by omega) (by simp) (by omega)
 simpa using this
theorem eqNode_r {N : Nat} {a : Nd} (h1 : a.2.2.2.2.2.2.length ≤ 1048576) (hN : 1048576 < N) : F58 N a a = some true := by
 unfold F58
 simp only [bne_self_eq_false, cond_false, beq_self_eq_true, Bool.not_true]
 rw [eqIntS_v (by omega) (by omega), andO_of]
 simp
theorem eqNodeS_l (N : Nat) (a : List Nd) (hf : Fits a) (hN : 1048576 < N) : ∀ (d k i : Nat), i + d = a.length → d < k → F19_l0 N a a k (i : Int) = some true := by
 intro d
 have hs := hf.1
 induction d with
 | zero =>
  intro k i h hk
  rw [F19_l0_s _ _ _ (by omega), F19_l0_b]
  simp only [show ¬ (i : Int) < (a.length : Int) by omega, decide_false, cond_false, F19_j0]
 | succ d ih =>
  intro k i h hk
  have hi : i < a.length := by omega
  rw [F19_l0_s _ _ _ (by omega), F19_l0_b]
  simp only [show (i : Int) < (a.length : Int) by omega, decide_true, cond_true, gd_true (inR hi), Int.toNat_natCast, getD_at hi, eqNode_r (hf.2 _ (List.getElem_mem hi)).2 hN, andO_of, Bool.not_true, cond_false]
  rw [w64 (by omega) (by omega), show ((i : Int) + 1) = ((i + 1 : Nat) : Int) by omega]
  exact ih (k - 1) (i + 1) (by omega) (by omega)
theorem eqNodeS_r {N : Nat} {a : List Nd} (hf : Fits a) (hN : 1048576 < N) : F19 N a a = some true := by
 unfold F19
 have hs := hf.1
 simp only [bne_self_eq_false, cond_false]
 exact eqNodeS_l N a hf hN a.length N 0 (by omega) (by omega)
theorem arity_same (N : Nat) (k : Int) : F153 N k = F107 N k := rfl
theorem arity_v (N : Nat) (k : Int) : ∃ r : Int, F107 N k = some r ∧ r ≤ 2 := by
 unfold F107
 simp only [F107_j1, F107_j0]
 generalize (k == 0) = q0
 generalize (k == 1) = q1
 generalize (k == 2) = q2
 generalize (k == 3) = q3
 generalize (k == 4) = q4
 generalize (k == 5) = q5
 generalize (k == 6) = q6
 generalize (k == 7) = q7
 cases q0 <;> cases q3 <;> cases q4 <;> cases q1 <;> cases q2 <;> cases q5 <;> cases q6 <;> cases q7 <;> exact ⟨_, rfl, by omega⟩
theorem ends_l (N : Nat) (p : List Nd) (at_ : Nat) (hat : at_ < p.length) (hp : p.length ≤ 1048576) (room : Nat) (hroom : room ≤ 9) (si : List Nd → Int → Int → Option Int) (ss : List Nd → Int → Int → Option (Int × Int))
  (ih : ∀ x : Nat, x ≤ p.length → ∃ e d : Int, si p x (11 - (room : Int)) = some e ∧ ss p x (room : Int) = some (e, d) ∧ (e = -1 ∨ ((x : Int) < e ∧ e ≤ p.length)) ∧ 0 ≤ d ∧ d ≤ room)
  (ar : Int) (har : F107 N p[at_].1 = some ar) (har2 : ar ≤ 2) : ∀ (m k1 k2 x t : Nat) (dd : Int), ar ≤ (t : Int) + m → t ≤ 2 → t + m ≤ 3 → m < k1 → m < k2 → at_ < x → x ≤ p.length → 0 ≤ dd → dd ≤ room →
  ∃ e d : Int, F113_l0 N p (10 - (room : Int)) si ar k1 x t = some e ∧ F65_l0 N p at_ ((room : Int) + 1) ss k2 x dd t = some (e, d) ∧ (e = -1 ∨ ((at_ : Int) < e ∧ e ≤ p.length)) ∧ 0 ≤ d ∧ d ≤ room + 1 := by
 intro m
 induction m with
 | zero =>
  intro k1 k2 x t dd h1 ht h2 hk1 hk2 hx hx2 hd hd2
  rw [F113_l0_s _ _ _ _ _ (by omega), F113_l0_b, F65_l0_s _ _ _ _ _ (by omega), F65_l0_b]
  simp only [gd_true (inR hat), Int.toNat_natCast, getD_at hat, har, andO_of, show ¬ (t : Int) < ar by omega, decide_false, cond_false, F113_j0, F65_j0]
  rw [w64 (by omega) (by omega)]
  exact ⟨x, dd + 1, rfl, rfl, .inr ⟨by omega, by omega⟩, by omega, by omega⟩
 | succ m ihm =>
  intro k1 k2 x t dd h1 ht h2 hk1 hk2 hx hx2 hd hd2
  rw [F113_l0_s _ _ _ _ _ (by omega), F113_l0_b, F65_l0_s _ _ _ _ _ (by omega), F65_l0_b]
  simp only [gd_true (inR hat), Int.toNat_natCast, getD_at hat, har, andO_of, F113_j0, F65_j0, F65_j1]
  by_cases hlt : (t : Int) < ar
  ·obtain ⟨e, d, e1, e2, e3, e4, e5⟩ := ih x hx2
   simp only [hlt, decide_true, cond_true]
   rw [w64 (x := 10 - (room : Int) + 1) (by omega) (by omega), w64 (x := (room : Int) + 1 - 1) (by omega) (by omega), show 10 - (room : Int) + 1 = 11 - (room : Int) by omega, show (room : Int) + 1 - 1 = (room : Int) by omega, e1, e2, andO_of, andO_of]
   simp only
   by_cases hn : e < 0
   ·simp only [hn, decide_true, cond_true]
    exact ⟨-1, 0, rfl, rfl, .inl rfl, by omega, by omega⟩
   ·simp only [hn, decide_false, cond_false]
    obtain ⟨e', rfl⟩ : ∃ e' : Nat, e = (e' : Int) := ⟨e.toNat, by omega⟩
    rw [w64 (x := (t : Int) + 1) (by omega) (by omega), show (t : Int) + 1 = ((t + 1 : Nat) : Int) by omega]
    by_cases hgt : d > dd
    ·simp only [hgt, decide_true, cond_true]
     exact ihm (k1 - 1) (k2 - 1) e' (t + 1) d (by omega) (by omega) (by omega) (by omega) (by omega) (by omega) (by omega) (by omega) (by omega)
    ·simp only [hgt, decide_false, cond_false]
     exact ihm (k1 - 1) (k2 - 1) e' (t + 1) dd (by omega) (by omega) (by omega) (by omega) (by omega) (by omega) (by omega) (by omega) (by omega)
  ·simp only [hlt, decide_false, cond_false]
   rw [w64 (by omega) (by omega)]
   exact ⟨x, dd + 1, rfl, rfl, .inr ⟨by omega, by omega⟩, by omega, by omega⟩
theorem ends (N : Nat) (p : List Nd) (hp : p.length ≤ 1048576) (hN : 3 < N) : ∀ (room k1 k2 x : Nat), room ≤ 10 → room < k1 → room < k2 → x ≤ p.length →
  ∃ e d : Int, F113_r N k1 p x (11 - (room : Int)) = some e ∧ F65_r N k2 p x (room : Int) = some (e, d) ∧ (e = -1 ∨ ((x : Int) < e ∧ e ≤ p.length)) ∧ 0 ≤ d ∧ d ≤ room := by
 intro room
 induction room with
 | zero =>
  intro k1 k2 x hr hk1 hk2 hx
  rw [F113_s _ (by omega), F113_b, F65_s _ (by omega), F65_b]
  by_cases hge : (x : Int) ≥ (p.length : Int)
  ·simp only [hge, decide_true, cond_true]
   exact ⟨-1, 0, rfl, rfl, .inl rfl, by omega, by omega⟩
  ·simp only [hge, decide_false, cond_false, show (11 - ((0 : Nat) : Int)) > 10 by omega, decide_true, cond_true]
   exact ⟨-1, 0, rfl, rfl, .inl rfl, by omega, by omega⟩
 | succ room ih =>
  intro k1 k2 x hr hk1 hk2 hx
  rw [F113_s _ (by omega), F113_b, F65_s _ (by omega), F65_b]
  by_cases hge : (x : Int) ≥ (p.length : Int)
  ·simp only [hge, decide_true, cond_true]
   exact ⟨-1, 0, rfl, rfl, .inl rfl, by omega, by omega⟩
  ·have hi : x < p.length := by omega
   have hz : ((((room + 1 : Nat)) : Int) == 0) = false := by
    rw [beq_eq_false_iff_ne]; omega
   obtain ⟨ar, har, har2⟩ := arity_v N p[x].1
   simp only [hge, decide_false, cond_false, show ¬ (11 - ((room + 1 : Nat) : Int)) > 10 by omega, hz, gd_true (inR hi), Int.toNat_natCast, getD_at hi, arity_same, har, andO_of]
   rw [w64 (x := (x : Int) + 1) (by omega) (by omega), show (x : Int) + 1 = ((x + 1 : Nat) : Int) by omega, show (11 - ((room + 1 : Nat) : Int)) = 10 - (room : Int) by omega, show (((room + 1 : Nat)) : Int) = (room : Int) + 1 by omega]
   have := ends_l N p x hi hp room (by omega) (F113_r N (k1 - 1)) (F65_r N (k2 - 1)) (fun y hy => ih (k1 - 1) (k2 - 1) y (by omega) (by omega) (by omega) hy) ar har har2 3 N N (x + 1) 0 0 (by omega) (by omega) (by omega) (by omega) (by omega) (by omega) (by omega) (by omega) (by omega)
   exact this
theorem iPlanOk1_v {N : Nat} {x : Nd} (hN : 1048576 < N) (hx : x.2.1.size ≤ 1048576 ∧ x.2.2.2.2.2.2.length ≤ 1048576) : F124 N x = some (!nodeB x) := by
 unfold F124
 rw [iNodeOk_v (by omega) (by omega) (by omega) (by omega) (by omega), andO_of]
theorem sPlan_l (N : Nat) (p : List Nd) (hf : Fits p) (hN : 1048576 < N) (z : Bool) (hz : F67_j0 N p = some z) : ∀ (d k i : Nat), i + d = p.length → d < k → F67_l0 N p k (i : Int) = some ((p.drop i).all nodeB && z) := by
 intro d
 have hs := hf.1
 induction d with
 | zero =>
  intro k i h hk
  rw [F67_l0_s _ _ (by omega), F67_l0_b]
  simp only [show ¬ (i : Int) < (p.length : Int) by omega, decide_false, cond_false, hz]
  rw [List.drop_eq_nil_of_le (by omega)]
  rfl
 | succ d ih =>
  intro k i h hk
  have hi : i < p.length := by omega
  have hm := hf.2 _ (List.getElem_mem hi)
  rw [F67_l0_s _ _ (by omega), F67_l0_b]
  simp only [show (i : Int) < (p.length : Int) by omega, decide_true, cond_true, gd_true (inR hi), Int.toNat_natCast, getD_at hi, sNodeOk_v (show _ < N by omega) (show _ < N by omega) (show p[i].2.2.2.2.2.2.length < 4611686018427387904 by omega) (by omega), andO_of]
  rw [w64 (by omega) (by omega), show ((i : Int) + 1) = ((i + 1 : Nat) : Int) by omega, ih (k - 1) (i + 1) (by omega) (by omega), List.drop_eq_getElem_cons hi, List.all_cons]
  cases nodeB p[i] <;> rfl
theorem planOk_v {N : Nat} {p : List Nd} (hf : Fits p) (hN : 1048576 < N) : ∃ b, F83 N p = some b ∧ F67 N p = some b ∧ (b = true → p.length ≤ 40 ∧ ∀ x ∈ p, nodeB x = true) := by
 have hs := hf.1
 unfold F83 F67
 obtain ⟨e, d, e1, e2, e3, e4, e5⟩ := ends N p hs (by omega) 10 N N 0 (by omega) (by omega) (by omega) (by omega)
 have e1' : F113 N p (0 : Int) (1 : Int) = some e := e1
 have e2' : F65 N p (0 : Int) (10 : Int) = some (e, d) := e2
 have hj : F67_j0 N p = some (e == (p.length : Int)) := by
  unfold F67_j0
  rw [e2', andO_of]
 have hl := sPlan_l N p hf hN _ hj p.length N 0 (by omega) (by omega)
 rw [show (((0 : Nat)) : Int) = 0 from rfl, List.drop_zero] at hl
 rw [in_v, l01In_v, andO_of, andO_of, hl, contFuncN_v (q := fun x => !nodeB x) (fun x hx => iPlanOk1_v hN (hf.2 x hx)) (by omega) (by omega), andO_of, e1', andO_of]
 have hany : (p.any fun x => !nodeB x) = !(p.all nodeB) := by
  rw [List.not_all_eq_any_not]
 rw [hany]
 by_cases hb : (1 : Int) ≤ (p.length : Int) ∧ (p.length : Int) ≤ 40
 ·simp only [hb, and_self, decide_true, Bool.not_true, cond_false]
  cases ha : p.all nodeB with
  | false => exact ⟨false, rfl, rfl, fun h => by cases h⟩
  | true =>
   refine ⟨e == (p.length : Int), rfl, rfl, fun _ => ⟨by omega, fun x hx => ?_⟩⟩
   exact List.all_eq_true.mp ha x hx
 ·simp only [hb, decide_false, Bool.not_false, cond_true]
  exact ⟨false, rfl, rfl, fun h => by cases h⟩
end Go.Proofs.Ytjbahkjjgciooaa.Vc
namespace Go.Proofs.Ytjbahkjjgciooaa.Vc
open Go Go.RowKit
set_option linter.unusedVariables false
set_option linter.unusedSimpArgs false
end Go.Proofs.Ytjbahkjjgciooaa.Vc
namespace Go.Proofs.Ytjbahkjjgciooaa.Vc
open Go Go.RowKit
set_option linter.unusedVariables false
set_option linter.unusedSimpArgs false
theorem bytes_l (N : Nat) (b : List Int) (hs : b.length ≤ 1000000) : ∀ (d k i : Nat) (out : List Int), i + d = b.length → d < k → out.length + d ≤ 3000000 →
  F80_l0 N b k out (i : Int) = some (out ++ b.drop i) := by
 intro d
 have hlim := lim_u8
 induction d with
 | zero =>
  intro k i out h hk ho
  rw [F80_l0_s _ _ (by omega), F80_l0_b]
  simp only [show ¬ (i : Int) < (b.length : Int) by omega, decide_false, cond_false, F80_j0]
  rw [List.drop_eq_nil_of_le (by omega), List.append_nil]
 | succ d ih =>
  intro k i out h hk ho
  have hi : i < b.length := by omega
  rw [F80_l0_s _ _ (by omega), F80_l0_b]
  simp only [show (i : Int) < (b.length : Int) by omega, decide_true, cond_true, gd_true (inR hi), Int.toNat_natCast, getD_at hi]
  rw [gd_true (show out.length + [b[i]].length ≤ lim (.int .u8) by simp; omega), w64 (by omega) (by omega), show ((i : Int) + 1) = ((i + 1 : Nat) : Int) by omega, ih (k - 1) (i + 1) (out ++ [b[i]]) (by omega) (by omega) (by simp; omega), List.drop_eq_getElem_cons hi]
  simp only [List.append_assoc, List.cons_append, List.nil_append]
theorem copyB_l (N : Nat) (b : List Int) (hs : b.length ≤ 1000000) : ∀ (d k i : Nat), i + d = b.length → d < k → F118_l0 N b k (b.take i) (i : Int) = some b := by
 intro d
 have hlim := lim_u8
 induction d with
 | zero =>
  intro k i h hk
  rw [F118_l0_s _ _ (by omega), F118_l0_b]
  simp only [show ¬ (i : Int) < (b.length : Int) by omega, decide_false, cond_false, F118_j0]
  rw [List.take_of_length_le (by omega)]
 | succ d ih =>
  intro k i h hk
  have hi : i < b.length := by omega
  rw [F118_l0_s _ _ (by omega), F118_l0_b]
  simp only [show (i : Int) < (b.length : Int) by omega, decide_true, cond_true, gd_true (inR hi), Int.toNat_natCast, getD_at hi]
  rw [gd_true (show (b.take i).length + [b[i]].length ≤ lim (.int .u8) by simp; omega), w64 (by omega) (by omega), show ((i : Int) + 1) = ((i + 1 : Nat) : Int) by omega, ← List.take_succ_eq_append_getElem hi]
  exact ih (k - 1) (i + 1) (by omega) (by omega)
theorem join_v {N : Nat} {a b : List Int} (hN : 1048576 < N) (ha : a.length ≤ 1000000) (hb : b.length ≤ 1000000) : F80 N a b = some (a ++ b) := by
 have h1 := copyB_l N a ha a.length N 0 (by omega) (by omega)
 have h2 := bytes_l N b hb b.length N 0 a (by omega) (by omega) (by omega)
 rw [show (((0 : Nat)) : Int) = 0 from rfl] at h1 h2
 unfold F80 F118
 rw [List.take_zero] at h1
 rw [h1, andO_of, h2, List.drop_zero]
theorem num_l (N : Nat) : ∀ (d k1 k2 : Nat) (n : Int) (out : List Int), 0 ≤ n → n < 128 ^ (d + 1) → d ≤ 5 → d < k1 → d < k2 → out.length + d ≤ 1000 →
  ∃ l : List Int, F84_l0 N k1 n out = some (out ++ l) ∧ F79_l0 N k2 out n = some (out ++ l) ∧ l.length ≤ d + 1 := by
 intro d
 have hlim := lim_u8
 induction d with
 | zero =>
  intro k1 k2 n out h0 h1 hd hk1 hk2 ho
  have h1 : n < 128 := by simpa using h1
  rw [F84_l0_s _ (by omega), F84_l0_b, F79_l0_s _ (by omega), F79_l0_b]
  simp only [show ¬ n ≥ 128 by omega, decide_false, cond_false, F84_j0, F79_j0]
  rw [gd_true (show out.length + [IntKind.u8.wrap n].length ≤ lim (.int .u8) by simp; omega)]
  exact ⟨_, rfl, rfl, by simp⟩
 | succ d ih =>
  intro k1 k2 n out h0 h1 hd hk1 hk2 ho
  rw [F84_l0_s _ (by omega), F84_l0_b, F79_l0_s _ (by omega), F79_l0_b]
  have hp : (128 : Int) ^ (d + 1) ≤ 128 ^ 6 := by
   have : (128 : Nat) ^ (d + 1) ≤ 128 ^ 6 := Nat.pow_le_pow_right (by omega) (by omega)
   exact_mod_cast this
  have hp2 : (128 : Int) ^ (d + 1 + 1) = 128 ^ (d + 1) * 128 := Int.pow_succ 128 (d + 1)
  by_cases hb : n ≥ 128
  ·simp only [hb, decide_true, cond_true]
   rw [Int.add_comm (Int.tmod n 128) 128]
   simp only [gd_true (show out.length + [IntKind.u8.wrap (IntKind.i64.wrap (128 + Int.tmod n 128))].length ≤ lim (.int .u8) by simp; omega)]
   have hq : Int.tdiv n 128 = n / 128 := Int.tdiv_eq_ediv_of_nonneg h0
   have hq1 : n / 128 < 128 ^ (d + 1) := by
    apply Int.ediv_lt_of_lt_mul (by omega)
    rw [← hp2]; exact h1
   have hq0 : 0 ≤ n / 128 := Int.ediv_nonneg h0 (by omega)
   rw [hq, w64 (x := n / 128) (by omega) (by omega)]
   obtain ⟨l, e1, e2, e3⟩ := ih (k1 - 1) (k2 - 1) (n / 128) (out ++ [IntKind.u8.wrap (IntKind.i64.wrap (128 + Int.tmod n 128))]) hq0 hq1 (by omega) (by omega) (by omega) (by simp; omega)
   exact ⟨IntKind.u8.wrap (IntKind.i64.wrap (128 + Int.tmod n 128)) :: l, by rw [e1]; simp, by rw [e2]; simp, by simp; omega⟩
  ·simp only [show ¬ n ≥ 128 from hb, decide_false, cond_false, F84_j0, F79_j0]
   rw [gd_true (show out.length + [IntKind.u8.wrap n].length ≤ lim (.int .u8) by simp; omega)]
   exact ⟨_, rfl, rfl, by simp⟩
theorem num_v {N : Nat} (hN : 1048576 < N) (x : Int) : ∃ l : List Int, F84 N x = some l ∧ F79 N x = some l ∧ l.length ≤ 4 := by
 unfold F84 F79
 rw [isNum_v, l01Number_v, andO_of, andO_of]
 by_cases hx : Num x
 ·rw [decide_eq_true hx]
  simp only [Bool.not_true, cond_false, F84_j1, F79_j1]
  obtain ⟨h1, h2⟩ := hx
  by_cases hn : x < 0
  ·simp only [hn, decide_true, cond_true]
   rw [w64 (x := -2 * x) (by omega) (by omega), w64 (x := -2 * x - 1) (by omega) (by omega)]
   obtain ⟨l, e1, e2, e3⟩ := num_l N 3 N N (-2 * x - 1) [] (by omega) (by omega) (by omega) (by omega) (by omega) (by simp)
   exact ⟨l, by simpa using e1, by simpa using e2, by omega⟩
  ·simp only [hn, decide_false, cond_false]
   rw [w64 (x := 2 * x) (by omega) (by omega)]
   obtain ⟨l, e1, e2, e3⟩ := num_l N 3 N N (2 * x) [] (by omega) (by omega) (by omega) (by omega) (by omega) (by simp)
   exact ⟨l, by simpa using e1, by simpa using e2, by omega⟩
 ·rw [decide_eq_false hx]
  exact ⟨[], rfl, rfl, by simp⟩
def numB (N : Nat) (x : Int) : List Int := match F84 N x with | some l => l | none => []
theorem numB_v {N : Nat} (hN : 1048576 < N) (x : Int) : F84 N x = some (numB N x) ∧ F79 N x = some (numB N x) ∧ (numB N x).length ≤ 4 := by
 obtain ⟨l, h1, h2, h3⟩ := num_v hN x
 have : numB N x = l := by simp [numB, h1]
 rw [this]
 exact ⟨h1, h2, h3⟩
def allB (N : Nat) (l : List Int) : List Int := l.flatMap (numB N)
theorem allB_len {N : Nat} (hN : 1048576 < N) : ∀ l : List Int, (allB N l).length ≤ 4 * l.length
 | [] => by simp [allB]
 | x :: l => by
  have h1 := allB_len hN l
  have h2 := (numB_v hN x).2.2
  simp only [allB, List.flatMap_cons, List.length_append, List.length_cons] at h1 ⊢
  omega
theorem putAll_l (N : Nat) (hN : 1048576 < N) (a : List Int) (hs : a.length ≤ 1000) : ∀ (d k i : Nat) (out : List Int), i + d = a.length → d < k → out.length ≤ 4 * i →
  F128_l0 N a k out (a.length : Int) (i : Int) = some (out ++ allB N (a.drop i)) := by
 intro d
 have hlim := lim_u8
 induction d with
 | zero =>
  intro k i out h hk ho
  rw [F128_l0_s _ _ (by omega), F128_l0_b]
  simp only [show ¬ (i : Int) < (a.length : Int) by omega, decide_false, cond_false, F128_j0]
  rw [List.drop_eq_nil_of_le (by omega)]
  simp [allB]
 | succ d ih =>
  intro k i out h hk ho
  have hi : i < a.length := by omega
  obtain ⟨h1, h2, h3⟩ := numB_v hN a[i]
  rw [F128_l0_s _ _ (by omega), F128_l0_b]
  simp only [show (i : Int) < (a.length : Int) by omega, decide_true, cond_true, gd_true (inR hi), Int.toNat_natCast, getD_at hi, h1, andO_of]
  rw [gd_true (show out.length + (numB N a[i]).length ≤ lim (.int .u8) by omega), w64 (by omega) (by omega), show ((i : Int) + 1) = ((i + 1 : Nat) : Int) by omega, ih (k - 1) (i + 1) _ (by omega) (by omega) (by simp; omega), List.drop_eq_getElem_cons hi]
  simp only [allB, List.flatMap_cons, List.append_assoc]
theorem putAll_v {N : Nat} {a : List Int} (hN : 1048576 < N) (hs : a.length ≤ 1000) : F128 N a = some (allB N a) := by
 have := putAll_l N hN a hs a.length N 0 [] (by omega) (by omega) (by simp)
 rw [show (((0 : Nat)) : Int) = 0 from rfl, List.drop_zero, List.nil_append] at this
 exact this
theorem l05Put_l (N : Nat) (hN : 1048576 < N) (a b : List Int) (hs : a.length ≤ 1000) (hb : b.length ≤ 1000) : ∀ (d k i : Nat) (out : List Int), i + d = a.length → d < k → out.length ≤ 1000 + 4 * i →
  F120_l0 N a k out (i : Int) = some (out ++ allB N (a.drop i)) := by
 intro d
 induction d with
 | zero =>
  intro k i out h hk ho
  rw [F120_l0_s _ _ (by omega), F120_l0_b]
  simp only [show ¬ (i : Int) < (a.length : Int) by omega, decide_false, cond_false, F120_j0]
  rw [List.drop_eq_nil_of_le (by omega)]
  simp [allB]
 | succ d ih =>
  intro k i out h hk ho
  have hi : i < a.length := by omega
  obtain ⟨h1, h2, h3⟩ := numB_v hN a[i]
  rw [F120_l0_s _ _ (by omega), F120_l0_b]
  simp only [show (i : Int) < (a.length : Int) by omega, decide_true, cond_true, gd_true (inR hi), Int.toNat_natCast, getD_at hi, h2, andO_of, join_v hN (show out.length ≤ 1000000 by omega) (show (numB N a[i]).length ≤ 1000000 by omega)]
  rw [w64 (by omega) (by omega), show ((i : Int) + 1) = ((i + 1 : Nat) : Int) by omega, ih (k - 1) (i + 1) _ (by omega) (by omega) (by simp; omega), List.drop_eq_getElem_cons hi]
  simp only [allB, List.flatMap_cons, List.append_assoc]
theorem l05Put_v {N : Nat} {a b : List Int} (hN : 1048576 < N) (hs : a.length ≤ 1000) (hb : b.length ≤ 1000) : F120 N b a = some (b ++ allB N a) := by
 have := l05Put_l N hN a b hs hb a.length N 0 b (by omega) (by omega) (by omega)
 rw [show (((0 : Nat)) : Int) = 0 from rfl, List.drop_zero] at this
 exact this
theorem iNums_l (N : Nat) (hN : 1048576 < N) (a : List Int) (hs : a.length ≤ 300) (ha : ∀ x ∈ a, Num x) : ∀ (d k i : Nat) (out : List Int), i + d = a.length → d < k → out.length ≤ 4 * i + 4 →
  F130_l0 N a k out (a.length : Int) (i : Int) = some (out ++ allB N (a.drop i)) := by
 intro d
 have hlim := lim_u8
 induction d with
 | zero =>
  intro k i out h hk ho
  rw [F130_l0_s _ _ (by omega), F130_l0_b]
  simp only [show ¬ (i : Int) < (a.length : Int) by omega, decide_false, cond_false, F130_j0]
  rw [List.drop_eq_nil_of_le (by omega)]
  simp [allB]
 | succ d ih =>
  intro k i out h hk ho
  have hi : i < a.length := by omega
  obtain ⟨h1, h2, h3⟩ := numB_v hN a[i]
  rw [F130_l0_s _ _ (by omega), F130_l0_b]
  simp only [show (i : Int) < (a.length : Int) by omega, decide_true, cond_true, gd_true (inR hi), Int.toNat_natCast, getD_at hi, isNum_v, decide_eq_true (ha _ (List.getElem_mem hi)), Bool.not_true, cond_false, h1, andO_of]
  rw [gd_true (show out.length + (numB N a[i]).length ≤ lim (.int .u8) by omega), w64 (by omega) (by omega), show ((i : Int) + 1) = ((i + 1 : Nat) : Int) by omega, ih (k - 1) (i + 1) _ (by omega) (by omega) (by simp; omega), List.drop_eq_getElem_cons hi]
  simp only [allB, List.flatMap_cons, List.append_assoc]
theorem sNums_l (N : Nat) (hN : 1048576 < N) (a : List Int) (hs : a.length ≤ 300) (ha : ∀ x ∈ a, Num x) : ∀ (d k i : Nat) (out : List Int), i + d = a.length → d < k → out.length ≤ 4 * i + 4 →
  F122_l0 N a k out (i : Int) = some (out ++ allB N (a.drop i)) := by
 intro d
 induction d with
 | zero =>
  intro k i out h hk ho
  rw [F122_l0_s _ _ (by omega), F122_l0_b]
  simp only [show ¬ (i : Int) < (a.length : Int) by omega, decide_false, cond_false, F122_j0]
  rw [List.drop_eq_nil_of_le (by omega)]
  simp [allB]
 | succ d ih =>
  intro k i out h hk ho
  have hi : i < a.length := by omega
  obtain ⟨h1, h2, h3⟩ := numB_v hN a[i]
  rw [F122_l0_s _ _ (by omega), F122_l0_b]
  simp only [show (i : Int) < (a.length : Int) by omega, decide_true, cond_true, gd_true (inR hi), Int.toNat_natCast, getD_at hi, l01Number_v, decide_eq_true (ha _ (List.getElem_mem hi)), Bool.not_true, cond_false, h2, andO_of, join_v hN (show out.length ≤ 1000000 by omega) (show (numB N a[i]).length ≤ 1000000 by omega)]
  rw [w64 (by omega) (by omega), show ((i : Int) + 1) = ((i + 1 : Nat) : Int) by omega, ih (k - 1) (i + 1) _ (by omega) (by omega) (by simp; omega), List.drop_eq_getElem_cons hi]
  simp only [allB, List.flatMap_cons, List.append_assoc]
theorem nums_v {N : Nat} {a : List Int} (hN : 1048576 < N) (hs : a.length ≤ 300) (ha : ∀ x ∈ a, Num x) : F130 N a = some (numB N a.length ++ allB N a) ∧ F122 N a = some (numB N a.length ++ allB N a) := by
 obtain ⟨h1, h2, h3⟩ := numB_v hN (a.length : Int)
 have e1 := iNums_l N hN a hs ha a.length N 0 (numB N a.length) (by omega) (by omega) (by omega)
 have e2 := sNums_l N hN a hs ha a.length N 0 (numB N a.length) (by omega) (by omega) (by omega)
 rw [show (((0 : Nat)) : Int) = 0 from rfl, List.drop_zero] at e1 e2
 unfold F130 F122
 rw [decide_eq_false (show ¬ (a.length : Int) > 300 by omega), cond_false, h1, andO_of, e1, cond_false, h2, andO_of, e2]
 exact ⟨rfl, rfl⟩
theorem word_size {w : ByteArray} (h : wordB w = true) : w.size ≤ 12 := by
 simp only [wordB, Bool.and_eq_true, decide_eq_true_eq] at h
 omega
theorem putWord_v {N : Nat} {w : ByteArray} (hN : 1048576 < N) (hw : w.size ≤ 1048576) : ∃ l : List Int, F127 N w = some l ∧ F119 N w = some l ∧ l.length ≤ 16 := by
 have hlim := lim_u8
 unfold F127 F119
 rw [iWord_v (by omega) (by omega), sWord_v (by omega) (by omega), andO_of, andO_of]
 cases hb : wordB w with
 | false => exact ⟨[], rfl, rfl, by simp⟩
 | true =>
  have h12 := word_size hb
  obtain ⟨h1, h2, h3⟩ := numB_v hN (w.size : Int)
  have hl : (bytesOf w).length = w.size := by simp [bytesOf]
  simp only [Bool.not_true, cond_false, h1, h2, andO_of, join_v hN (show (numB N w.size).length ≤ 1000000 by omega) (show (bytesOf w).length ≤ 1000000 by omega)]
  rw [gd_true (show (numB N w.size).length + w.size ≤ lim (.int .u8) by omega)]
  exact ⟨_, rfl, rfl, by rw [List.length_append]; omega⟩
theorem putNode_v {N : Nat} {a : Nd} (hN : 1048576 < N) (hw : a.2.1.size ≤ 1048576) (hc : a.2.2.2.2.2.2.length ≤ 1048576) : ∃ l : List Int, F85 N a = some l ∧ F81 N a = some l ∧ l.length ≤ 40 := by
 have hlim := lim_u8
 unfold F85 F81
 rw [iNodeOk_v (by omega) (by omega) (by omega) (by omega) (by omega), sNodeOk_v (by omega) (by omega) (by omega) (by omega), andO_of, andO_of]
 cases hb : nodeB a with
 | false => exact ⟨[], rfl, rfl, by simp⟩
 | true =>
  obtain ⟨h1, h2, h3⟩ := numB_v hN a.1
  obtain ⟨w, w1, w2, w3⟩ := putWord_v (w := a.2.1) hN hw
  simp only [Bool.not_true, cond_false, h1, h2, andO_of, w1, w2, join_v hN (show (numB N a.1).length ≤ 1000000 by omega) (show w.length ≤ 1000000 by omega)]
  have hfl : ∀ b : Bool, F129 N b = some (cond b 1 0) ∧ F121 N b = some (cond b 1 0) := fun b => by cases b <;> exact ⟨rfl, rfl⟩
  have hall : ∀ l : List Int, l.length ≤ 4 → F128 N l = some (allB N l) ∧ F120 N (numB N a.1) l = some (numB N a.1 ++ allB N l) ∧ (allB N l).length ≤ 16 := fun l hl => ⟨putAll_v hN (by omega), l05Put_v hN (by omega) (by omega), by have := allB_len hN l; omega⟩
  simp only [(hfl _).1, (hfl _).2, andO_of]
  by_cases k0 : a.1 = 0
  ·simp only [show (a.1 == 0) = true from by rw [beq_iff_eq]; exact k0, cond_true]
   rw [gd_true (by omega)]
   exact ⟨_, rfl, rfl, by rw [List.length_append]; omega⟩
  ·simp only [show (a.1 == 0) = false from by rw [beq_eq_false_iff_ne]; exact k0, cond_false]
   by_cases k1 : a.1 = 1
   ·obtain ⟨q1, q2, q3⟩ := hall [a.2.2.1, a.2.2.2.1, cond a.2.2.2.2.2.1 1 0, a.2.2.2.2.1] (by simp)
    simp only [show (a.1 == 1) = true from by rw [beq_iff_eq]; exact k1, cond_true, q1, q2, andO_of]
    rw [gd_true (by omega)]
    exact ⟨_, rfl, rfl, by rw [List.length_append]; omega⟩
   ·simp only [show (a.1 == 1) = false from by rw [beq_eq_false_iff_ne]; exact k1, cond_false]
    by_cases k2 : a.1 = 2
    ·obtain ⟨c1, c2, c3⟩ : 1 ≤ a.2.2.2.2.2.2.length ∧ a.2.2.2.2.2.2.length ≤ 6 ∧ ∀ c ∈ a.2.2.2.2.2.2, 0 ≤ c ∧ c ≤ 63 := by
      obtain ⟨k, nm, col, op, num, sl, cols⟩ := a
      simp only at k2
      subst k2
      simp only [nodeB] at hb
      simp at hb
      obtain ⟨⟨⟨⟨⟨⟨e1, e2⟩, e3⟩, e4⟩, e5⟩, e6⟩, e7⟩ := hb
      exact ⟨by have := e2.1; simp only; omega, by have := e2.2; simp only; omega, fun c hc => e3 c hc⟩
     obtain ⟨n1, n2⟩ := nums_v (a := a.2.2.2.2.2.2) hN (by omega) (fun x hx => by have := c3 x hx; exact ⟨by omega, by omega⟩)
     have n3 := allB_len hN a.2.2.2.2.2.2
     have n4 := (numB_v hN (a.2.2.2.2.2.2.length : Int)).2.2
     have n5 : (numB N a.2.2.2.2.2.2.length ++ allB N a.2.2.2.2.2.2).length ≤ 30 := by rw [List.length_append]; omega
     simp only [show (a.1 == 2) = true from by rw [beq_iff_eq]; exact k2, cond_true, n1, n2, andO_of, join_v hN (show (numB N a.1).length ≤ 1000000 by omega) (show (numB N a.2.2.2.2.2.2.length ++ allB N a.2.2.2.2.2.2).length ≤ 1000000 by omega)]
     rw [gd_true (by omega)]
     exact ⟨_, rfl, rfl, by rw [List.length_append]; omega⟩
    ·simp only [show (a.1 == 2) = false from by rw [beq_eq_false_iff_ne]; exact k2, cond_false]
     by_cases k3 : a.1 = 3
     ·obtain ⟨q1, q2, q3⟩ := hall [a.2.2.1, a.2.2.2.2.1] (by simp)
      simp only [show (a.1 == 3) = true from by rw [beq_iff_eq]; exact k3, cond_true, q1, q2, andO_of]
      rw [gd_true (by omega)]
      exact ⟨_, rfl, rfl, by rw [List.length_append]; omega⟩
     ·simp only [show (a.1 == 3) = false from by rw [beq_eq_false_iff_ne]; exact k3, cond_false]
      by_cases k5 : a.1 = 5
      ·obtain ⟨q1, q2, q3⟩ := hall [a.2.2.1] (by simp)
       simp only [show (a.1 == 5) = true from by rw [beq_iff_eq]; exact k5, cond_true, q1, q2, andO_of]
       rw [gd_true (by omega)]
       exact ⟨_, rfl, rfl, by rw [List.length_append]; omega⟩
      ·simp only [show (a.1 == 5) = false from by rw [beq_eq_false_iff_ne]; exact k5, cond_false]
       by_cases k6 : a.1 = 6
       ·obtain ⟨q1, q2, q3⟩ := hall [cond a.2.2.2.2.2.1 1 0, a.2.2.2.2.1] (by simp)
        simp only [show (a.1 == 6) = true from by rw [beq_iff_eq]; exact k6, cond_true, q1, q2, andO_of]
        rw [gd_true (by omega)]
        exact ⟨_, rfl, rfl, by rw [List.length_append]; omega⟩
       ·simp only [show (a.1 == 6) = false from by rw [beq_eq_false_iff_ne]; exact k6, cond_false]
        exact ⟨_, rfl, rfl, by omega⟩
theorem check_l (N : Nat) (b : List Int) (hs : b.length ≤ 1000000) : ∀ (d k1 k2 i : Nat) (x : Int), i + d = b.length → d < k1 → d < k2 → ∃ r : Int, F87_l0 N b k1 x (b.length : Int) (i : Int) = some r ∧ F88_l0 N b k2 x (i : Int) = some r := by
 intro d
 induction d with
 | zero =>
  intro k1 k2 i x h hk1 hk2
  rw [F87_l0_s _ _ (by omega), F87_l0_b, F88_l0_s _ _ (by omega), F88_l0_b]
  simp only [show ¬ (i : Int) < (b.length : Int) by omega, decide_false, cond_false, F87_j0, F88_j0]
  exact ⟨x, rfl, rfl⟩
 | succ d ih =>
  intro k1 k2 i x h hk1 hk2
  have hi : i < b.length := by omega
  rw [F87_l0_s _ _ (by omega), F87_l0_b, F88_l0_s _ _ (by omega), F88_l0_b]
  simp only [show (i : Int) < (b.length : Int) by omega, decide_true, cond_true, gd_true (inR hi)]
  rw [w64 (x := (i : Int) + 1) (by omega) (by omega), show ((i : Int) + 1) = ((i + 1 : Nat) : Int) by omega]
  exact ih (k1 - 1) (k2 - 1) (i + 1) _ (by omega) (by omega) (by omega)
theorem check_v {N : Nat} {b : List Int} (hN : 1048576 < N) (hs : b.length ≤ 1000000) : ∃ r : Int, F87 N b = some r ∧ F88 N b = some r :=
 check_l N b hs b.length N N 0 5 (by omega) (by omega) (by omega)
theorem catB_l (N : Nat) (ls : List (List Int)) (hl : ls.length ≤ 100) (hs : ∀ l ∈ ls, l.length ≤ 10000) : ∀ (d k i : Nat) (out : List Int), i + d = ls.length → d < k → out.length ≤ i * 10000 →
  F131_l0 N ls k out (ls.length : Int) (i : Int) = some (out ++ (ls.drop i).flatten) := by
 intro d
 have hlim := lim_u8
 induction d with
 | zero =>
  intro k i out h hk ho
  rw [F131_l0_s _ _ (by omega), F131_l0_b]
  simp only [show ¬ (i : Int) < (ls.length : Int) by omega, decide_false, cond_false, F131_j0]
  rw [List.drop_eq_nil_of_le (by omega)]
  simp
 | succ d ih =>
  intro k i out h hk ho
  have hi : i < ls.length := by omega
  have hm := hs _ (List.getElem_mem hi)
  rw [F131_l0_s _ _ (by omega), F131_l0_b]
  simp only [show (i : Int) < (ls.length : Int) by omega, decide_true, cond_true, gd_true (inR hi), Int.toNat_natCast, getD_at hi]
  rw [gd_true (show out.length + ls[i].length ≤ lim (.int .u8) by omega), w64 (by omega) (by omega), show ((i : Int) + 1) = ((i + 1 : Nat) : Int) by omega, ih (k - 1) (i + 1) (out ++ ls[i]) (by omega) (by omega) (by simp; omega), List.drop_eq_getElem_cons hi]
  simp only [List.flatten_cons, List.append_assoc]
theorem catB_n (N : Nat) (ls : List (List Int)) (hl : ls.length ≤ 100) (hs : ∀ l ∈ ls, l.length ≤ 10000) (z : List Int) (hz : ∀ n : Int, 0 ≤ n → n ≤ 1000000 → F131_j1 N ls n = some z) : ∀ (d k i : Nat) (n : Int), i + d = ls.length → d < k → 0 ≤ n → n ≤ i * 10000 →
  F131_l1 N ls k n (ls.length : Int) (i : Int) = some z := by
 intro d
 induction d with
 | zero =>
  intro k i n h hk h0 hn
  rw [F131_l1_s _ _ (by omega), F131_l1_b]
  simp only [show ¬ (i : Int) < (ls.length : Int) by omega, decide_false, cond_false]
  exact hz n h0 (by omega)
 | succ d ih =>
  intro k i n h hk h0 hn
  have hi : i < ls.length := by omega
  have hm := hs _ (List.getElem_mem hi)
  rw [F131_l1_s _ _ (by omega), F131_l1_b]
  simp only [show (i : Int) < (ls.length : Int) by omega, decide_true, cond_true, gd_true (inR hi), Int.toNat_natCast, getD_at hi]
  rw [w64 (x := n + (ls[i].length : Int)) (by omega) (by omega), decide_eq_false (show ¬ n + (ls[i].length : Int) < 0 by omega), cond_false, w64 (by omega) (by omega), show ((i : Int) + 1) = ((i + 1 : Nat) : Int) by omega]
  exact ih (k - 1) (i + 1) _ (by omega) (by omega) (by omega) (by omega)
theorem catB_v {N : Nat} {ls : List (List Int)} (hN : 1048576 < N) (hl : ls.length ≤ 100) (hs : ∀ l ∈ ls, l.length ≤ 10000) : F131 N ls = some ls.flatten := by
 have hlim := lim_u8
 unfold F131
 refine catB_n N ls hl hs _ (fun n h0 h1 => ?_) ls.length N 0 0 (by omega) (by omega) (by omega) (by omega)
 unfold F131_j1 F164
 have hd := catB_l N ls hl hs ls.length N 0 [] (by omega) (by omega) (by simp)
 rw [show (((0 : Nat)) : Int) = 0 from rfl, List.drop_zero, List.nil_append] at hd
 rw [decide_eq_false (show ¬ n < 0 by omega), cond_false, w64 (x := (0 : Int) - 0) (by omega) (by omega), show (0 : Int) - 0 = 0 from rfl, w64 (x := n - 0) (by omega) (by omega), show n - 0 = n by omega]
 by_cases h : n > 0
 ·rw [decide_eq_true h, cond_true, gd_true rfl, gd_true (show 0 ≤ n ∧ n ≤ (lim (.int .u8) : Int) by omega), gd_true (by simp; omega)]
  simp only [F164_j0, show (0 : Int).toNat = 0 from rfl, List.take_zero, andO_of]
  exact hd
 ·rw [decide_eq_false h, cond_false]
  simp only [F164_j0, andO_of]
  exact hd
theorem frame_v {N : Nat} {b : List Int} (hN : 1048576 < N) (hs : b.length ≤ 1000000) : ∃ (l : List Int) (z : Bool), F86 N b = some (l, z) ∧ F82 N b = some (l, z) ∧ l.length ≤ 5000 := by
 unfold F86 F82
 by_cases h : (b.length : Int) > 4000
 ·rw [decide_eq_true h]
  exact ⟨[], false, rfl, rfl, by simp⟩
 ·rw [decide_eq_false h]
  obtain ⟨h1, h2, h3⟩ := numB_v hN (b.length : Int)
  obtain ⟨r, c1, c2⟩ := check_v hN hs
  obtain ⟨h4, h5, h6⟩ := numB_v hN r
  have e1 := join_v hN (a := [80, 83]) (b := numB N b.length) (by simp) (by omega)
  have e2 := join_v hN (a := [80, 83] ++ numB N b.length) (b := b) (by simp; omega) (by omega)
  have e3 := join_v hN (a := [80, 83] ++ numB N b.length ++ b) (b := numB N r) (by simp; omega) (by omega)
  have e4 := catB_v (ls := [[80, 83], numB N b.length, b, numB N r]) hN (by simp) (fun l hl => by
   simp only [List.mem_cons, List.not_mem_nil, or_false] at hl
   rcases hl with rfl | rfl | rfl | rfl
   ·simp
   ·omega
   ·omega
   ·omega)
  simp only [cond_false, gd_true (show 0 < ([(80 : Int), (83 : Int)]).length by simp), h1, h2, c1, c2, h4, h5, andO_of, e1, e2, e3, e4]
  refine ⟨_, true, rfl, ?_, ?_⟩
  ·simp
  ·simp; omega
theorem iEnc_l (N : Nat) (p : List Nd) (hf : Fits p) (hN : 1048576 < N) (h40 : p.length ≤ 40) : ∀ (d k1 k2 i : Nat) (out : List Int), i + d = p.length → d < k1 → d < k2 → out.length ≤ 4 + 40 * i →
  ∃ l : List Int, l.length ≤ 2000 ∧ F43_l0 N p k1 out (p.length : Int) (i : Int) = F43_j0 N l ∧ F42_l0 N p k2 out (i : Int) = F42_j0 N l := by
 intro d
 have hlim := lim_u8
 induction d with
 | zero =>
  intro k1 k2 i out h hk1 hk2 ho
  rw [F43_l0_s _ _ (by omega), F43_l0_b, F42_l0_s _ _ (by omega), F42_l0_b]
  simp only [show ¬ (i : Int) < (p.length : Int) by omega, decide_false, cond_false]
  exact ⟨out, by omega, rfl, rfl⟩
 | succ d ih =>
  intro k1 k2 i out h hk1 hk2 ho
  have hi : i < p.length := by omega
  have hm := hf.2 _ (List.getElem_mem hi)
  obtain ⟨l, e1, e2, e3⟩ := putNode_v (a := p[i]) hN hm.1 hm.2
  rw [F43_l0_s _ _ (by omega), F43_l0_b, F42_l0_s _ _ (by omega), F42_l0_b]
  simp only [show (i : Int) < (p.length : Int) by omega, decide_true, cond_true, gd_true (inR hi), Int.toNat_natCast, getD_at hi, e1, e2, andO_of, join_v hN (show out.length ≤ 1000000 by omega) (show l.length ≤ 1000000 by omega)]
  rw [gd_true (show out.length + l.length ≤ lim (.int .u8) by omega), w64 (x := (i : Int) + 1) (by omega) (by omega), show ((i : Int) + 1) = ((i + 1 : Nat) : Int) by omega]
  exact ih (k1 - 1) (k2 - 1) (i + 1) _ (by omega) (by omega) (by omega) (by rw [List.length_append]; omega)
theorem enc_v {N : Nat} {p : List Nd} (hf : Fits p) (hN : 1048576 < N) : ∃ (l : List Int) (z : Bool), F43 N p = some (l, z) ∧ F42 N p = some (l, z) ∧ l.length ≤ 5000 := by
 obtain ⟨b, h1, h2, h3⟩ := planOk_v hf hN
 unfold F43 F42
 rw [h1, h2, andO_of, andO_of]
 cases b with
 | false => exact ⟨[], false, rfl, rfl, by simp⟩
 | true =>
  obtain ⟨h40, _⟩ := h3 rfl
  obtain ⟨n1, n2, n3⟩ := numB_v hN (p.length : Int)
  obtain ⟨l, k1, k2, k3⟩ := iEnc_l N p hf hN h40 p.length N N 0 (numB N p.length) (by omega) (by omega) (by omega) (by omega)
  obtain ⟨l2, z, f1, f2, f3⟩ := frame_v (b := l) hN (by omega)
  rw [show (((0 : Nat)) : Int) = 0 from rfl] at k2 k3
  simp only [Bool.not_true, cond_false, n1, n2, andO_of, k2, k3, F43_j0, F42_j0, f1, f2]
  exact ⟨l2, z, rfl, rfl, f3⟩
theorem print_l (N : Nat) (b : List Int) (hs : b.length ≤ 1000000) : ∀ (d k1 k2 i : Nat) (x : Int), i + d = b.length → d < k1 → d < k2 → ∃ r : Int, F18_l0 N k1 x b (b.length : Int) (i : Int) = some r ∧ F16_l0 N k2 b x (i : Int) = some r := by
 intro d
 induction d with
 | zero =>
  intro k1 k2 i x h hk1 hk2
  rw [F18_l0_s _ (by omega), F18_l0_b, F16_l0_s _ (by omega), F16_l0_b]
  simp only [show ¬ (i : Int) < (b.length : Int) by omega, decide_false, cond_false, F18_j0, F16_j0]
  exact ⟨x, rfl, rfl⟩
 | succ d ih =>
  intro k1 k2 i x h hk1 hk2
  have hi : i < b.length := by omega
  rw [F18_l0_s _ (by omega), F18_l0_b, F16_l0_s _ (by omega), F16_l0_b]
  simp only [show (i : Int) < (b.length : Int) by omega, decide_true, cond_true, gd_true (inR hi), Int.toNat_natCast, gd_true hi]
  rw [w64 (x := (i : Int) + 1) (by omega) (by omega), show ((i : Int) + 1) = ((i + 1 : Nat) : Int) by omega]
  exact ih (k1 - 1) (k2 - 1) (i + 1) _ (by omega) (by omega) (by omega)
theorem print_v {N : Nat} {p : List Nd} (hf : Fits p) (hN : 1048576 < N) : ∃ r : Int, F18 N p = some r ∧ F16 N p = some r := by
 obtain ⟨l, z, e1, e2, e3⟩ := enc_v hf hN
 unfold F18 F16
 rw [e1, e2, andO_of, andO_of]
 cases z with
 | false => exact ⟨-1, rfl, rfl⟩
 | true => exact print_l N l (by omega) l.length N N 0 97 (by omega) (by omega) (by omega)
theorem lawFnExactPrintOf (a : List Nd) (h : (Ty.sl ndT).wf a) : ∃ N, F4 N a = some true := by
 refine ⟨3000000, ?_⟩
 unfold F4
 obtain ⟨r, e1, e2, e3, e4⟩ := szNodeS_v (N := 3000000) (l := 1048576) (len_of h) (by omega) (by omega) (by omega)
 rw [e1, andO_of]
 by_cases hr : r < 0
 ·rw [decide_eq_true hr, cond_true]
 ·have hf := e4 (by omega)
  obtain ⟨q, h1, h2⟩ := print_v (N := 3000000) hf (by omega)
  rw [decide_eq_false hr, cond_false]
  simp only [toNodeS_v (N := 3000000) hf (by omega), andO_of, h1, h2, bne_self_eq_false, cond_false, eqNodeS_r (N := 3000000) hf (by omega), Bool.not_true]
end Go.Proofs.Ytjbahkjjgciooaa.Vc
