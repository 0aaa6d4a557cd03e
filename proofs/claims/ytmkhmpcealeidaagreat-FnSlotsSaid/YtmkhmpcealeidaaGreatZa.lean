/- Plain lemmas on what the functions compute, and the law. -/
import Derived.Test.YtmkhmpcealeidaaGreatYb
import Derived.Laws.BitsLemmas
namespace Go.Proofs.YtmkhmpcealeidaaGreat.Vc
open Go Go.RowKit
set_option linter.unusedVariables false
set_option linter.unusedSimpArgs false
theorem andO_of {α β : Type} (a : α) (k : α → Option β) : andO (some a) k = k a := rfl
theorem w64 {x : Int} (h1 : -9223372036854775808 ≤ x) (h2 : x ≤ 9223372036854775807) : IntKind.i64.wrap x = x := by
 rw [IntKind.wrap_i64]; omega
theorem inR {i k : Nat} (h : i < k) : InR (i : Int) k := by simp only [InR]; omega
theorem getD_at {α : Type} {xs : List α} {i : Nat} {d : α} (h : i < xs.length) : xs.getD i d = xs[i] := by simp [List.getD, h]
theorem lim_i64 : lim (.int .i64) = 5864062014805 := by decide
theorem lim_u8 : lim (.int .u8) = 5864062014805 := by decide
theorem drop_eq_iff {α : Type} {a b : List α} {i : Nat} (hi : i < a.length) (hi' : i < b.length) : a.drop i = b.drop i ↔ a[i] = b[i] ∧ a.drop (i + 1) = b.drop (i + 1) := by
 rw [List.drop_eq_getElem_cons hi, List.drop_eq_getElem_cons hi', List.cons.injEq]
theorem bne_len {a b : Nat} : (((a : Nat) : Int) != ((b : Nat) : Int)) = decide (a ≠ b) := by
 by_cases h : a = b
 ·subst h; simp
 ·have : (a : Int) ≠ (b : Int) := by omega
  simp [h, this]
end Go.Proofs.YtmkhmpcealeidaaGreat.Vc
namespace Go.Proofs.YtmkhmpcealeidaaGreat.Vc
open Go Go.RowKit
set_option linter.unusedVariables false
set_option linter.unusedSimpArgs false
end Go.Proofs.YtmkhmpcealeidaaGreat.Vc
namespace Go.Proofs.YtmkhmpcealeidaaGreat.Vc
open Go Go.RowKit
set_option linter.unusedVariables false
set_option linter.unusedSimpArgs false
theorem l01In_v (N : Nat) (x a b : Int) : F96 N x a b = some (decide (a ≤ x ∧ x ≤ b)) := by
 unfold F96
 by_cases h : a ≤ x <;> simp [h]
theorem in_v (N : Nat) (x a b : Int) : F80 N x a b = some (decide (a ≤ x ∧ x ≤ b)) := by
 unfold F80
 by_cases h : x ≥ a <;> simp [h]
def Num (x : Int) : Prop := -1000000 ≤ x ∧ x ≤ 1000000
instance (x : Int) : Decidable (Num x) := inferInstanceAs (Decidable (-1000000 ≤ x ∧ x ≤ 1000000))
theorem l01Number_v (N : Nat) (x : Int) : F153 N x = some (decide (Num x)) := by
 unfold F153
 rw [l01In_v, andO_of]
 rfl
theorem isNum_v (N : Nat) (x : Int) : F133 N x = some (decide (Num x)) := by
 unfold F133
 rw [in_v, andO_of]
 rfl
def idxF (x : Int) : List Int → Nat → Int
 | [], _ => -1
 | y :: l, i => if y = x then (i : Int) else idxF x l (i + 1)
theorem idxF_lt (x : Int) : ∀ (l : List Int) (i : Nat), idxF x l i = -1 ∨ ∃ j, j < l.length ∧ idxF x l i = ((i + j : Nat) : Int) ∧ l[j]? = some x
 | [], i => .inl rfl
 | y :: l, i => by
  simp only [idxF]
  by_cases h : y = x
  ·rw [if_pos h]
   exact .inr ⟨0, by simp, rfl, by simp [h]⟩
  ·rw [if_neg h]
   rcases idxF_lt x l (i + 1) with h1 | ⟨j, h1, h2, h3⟩
   ·exact .inl h1
   ·exact .inr ⟨j + 1, by simp; omega, by rw [h2]; omega, by simpa using h3⟩
theorem idxF_none {x : Int} : ∀ {l : List Int} {i : Nat}, idxF x l i = -1 ↔ x ∉ l
 | [], i => by simp [idxF]
 | y :: l, i => by
  simp only [idxF, List.mem_cons, not_or]
  by_cases h : y = x
  ·rw [if_pos h]
   constructor
   ·intro e; omega
   ·intro e; exact absurd h.symm e.1
  ·rw [if_neg h, idxF_none]
   exact ⟨fun e => ⟨fun e' => h e'.symm, e⟩, fun e => e.2⟩
abbrev idx (x : Int) (l : List Int) : Int := idxF x l 0
theorem index_l (N : Nat) (a : List Int) (x : Int) (hs : a.length < 4611686018427387904) : ∀ (d k i : Nat), i + d = a.length → d < k → F53_l0 N a x k (a.length : Int) (i : Int) = some (idxF x (a.drop i) i) := by
 intro d
 induction d with
 | zero =>
  intro k i h hk
  have hi : i = a.length := by omega
  subst hi
  rw [F53_l0_s _ _ _ (by omega), F53_l0_b]
  simp [F53_j0, idxF]
 | succ d ih =>
  intro k i h hk
  have hi : i < a.length := by omega
  rw [F53_l0_s _ _ _ (by omega), F53_l0_b]
  simp only [show (i : Int) < (a.length : Int) by omega, decide_true, cond_true, gd_true (inR hi), Int.toNat_natCast, getD_at hi]
  rw [w64 (by omega) (by omega), show ((i : Int) + 1) = ((i + 1 : Nat) : Int) by omega, ih (k - 1) (i + 1) (by omega) (by omega), List.drop_eq_getElem_cons hi]
  simp only [idxF]
  by_cases hx : a[i] = x
  ·have : (x == a[i]) = true := by simp [hx]
   simp only [this, cond_true, if_pos hx]
  ·have : (x == a[i]) = false := by simpa using fun e : x = a[i] => hx e.symm
   simp only [this, cond_false, if_neg hx]
theorem index_v {N : Nat} {a : List Int} {x : Int} (hs : a.length < N) (hN : a.length < 4611686018427387904) : F53 N a x = some (idx x a) := by
 unfold F53
 have := index_l N a x hN a.length N 0 (by omega) hs
 simpa using this
theorem l01Has_l (N : Nat) (a : List Int) (x : Int) (hs : a.length < 4611686018427387904) : ∀ (d k i : Nat), i + d = a.length → d < k → F55_l0 N a x k (i : Int) = some (decide (x ∈ a.drop i)) := by
 intro d
 induction d with
 | zero =>
  intro k i h hk
  have hi : i = a.length := by omega
  subst hi
  rw [F55_l0_s _ _ _ (by omega), F55_l0_b]
  simp [F55_j0]
 | succ d ih =>
  intro k i h hk
  have hi : i < a.length := by omega
  rw [F55_l0_s _ _ _ (by omega), F55_l0_b]
  simp only [show (i : Int) < (a.length : Int) by omega, decide_true, cond_true, gd_true (inR hi), Int.toNat_natCast, getD_at hi]
  rw [w64 (by omega) (by omega), show ((i : Int) + 1) = ((i + 1 : Nat) : Int) by omega, ih (k - 1) (i + 1) (by omega) (by omega), List.drop_eq_getElem_cons hi]
  by_cases hx : a[i] = x
  ·have : (a[i] == x) = true := by simp [hx]
   rw [this, cond_true]
   simp [hx]
  ·have : (a[i] == x) = false := by simp [hx]
   simp only [this, cond_false, List.mem_cons, fun e : x = a[i] => hx e.symm, false_or]
   have h2 : ¬ x = a[i] := fun e => hx e.symm
   simp only [h2, false_or]
theorem l01Has_v {N : Nat} {a : List Int} {x : Int} (hs : a.length < N) (hN : a.length < 4611686018427387904) : F55 N a x = some (decide (x ∈ a)) := by
 unfold F55
 have := l01Has_l N a x hN a.length N 0 (by omega) hs
 simpa using this
theorem l01Copy_l (N : Nat) (a : List Int) (hs : a.length ≤ 5864062014805) : ∀ (d k i : Nat), i + d = a.length → d < k → F78_l0 N a k (a.take i) (i : Int) = some a := by
 intro d
 induction d with
 | zero =>
  intro k i h hk
  have hi : i = a.length := by omega
  subst hi
  rw [F78_l0_s _ _ (by omega), F78_l0_b]
  simp [F78_j0]
 | succ d ih =>
  intro k i h hk
  have hi : i < a.length := by omega
  have hl : (a.take i).length = i := by simp; omega
  rw [F78_l0_s _ _ (by omega), F78_l0_b]
  simp only [show (i : Int) < (a.length : Int) by omega, decide_true, cond_true, gd_true (inR hi), Int.toNat_natCast, getD_at hi]
  rw [gd_true (by rw [lim_i64, hl, List.length_singleton]; omega), w64 (by omega) (by omega), show ((i : Int) + 1) = ((i + 1 : Nat) : Int) by omega, ← List.take_succ_eq_append_getElem hi]
  exact ih (k - 1) (i + 1) (by omega) (by omega)
theorem l01Copy_v {N : Nat} {a : List Int} (hs : a.length < N) (hN : a.length ≤ 5864062014805) : F78 N a = some a := by
 unfold F78
 have := l01Copy_l N a hN a.length N 0 (by omega) hs
 simpa using this
theorem clone_v {N : Nat} {a : List Int} (hN : a.length ≤ 5864062014805) : F79 N a = some a := by
 unfold F79
 rw [gd_true (by rw [lim_i64]; exact hN)]
end Go.Proofs.YtmkhmpcealeidaaGreat.Vc
namespace Go.Proofs.YtmkhmpcealeidaaGreat.Vc
open Go Go.RowKit
set_option linter.unusedVariables false
set_option linter.unusedSimpArgs false
abbrev Nd := Int × (ByteArray × (Int × (Int × (Int × (Bool × List Int)))))
def allF (f : Nat → Bool) : Nat → Nat → Bool
 | _, 0 => true
 | i, d + 1 => f i && allF f (i + 1) d
theorem allF_congr {f g : Nat → Bool} : ∀ {d i : Nat}, (∀ j, i ≤ j → f j = g j) → allF f i d = allF g i d
 | 0, i, h => rfl
 | d + 1, i, h => by
  rw [allF, allF, h i (Nat.le_refl _), allF_congr (fun j hj => h j (by omega))]
def chr (w : ByteArray) (i : Nat) : Int := ((w.data.getD i 0).toNat : Int)
def okI (w : ByteArray) (i : Nat) : Bool := decide ((97 ≤ chr w i ∧ chr w i ≤ 122) ∨ (i ≠ 0 ∧ 48 ≤ chr w i ∧ chr w i ≤ 57))
def okS (w : ByteArray) (i : Nat) : Bool := decide ((97 ≤ chr w i ∧ chr w i ≤ 122) ∨ (48 ≤ chr w i ∧ chr w i ≤ 57))
def wordB (w : ByteArray) : Bool := allF (okI w) 0 w.size && decide (1 ≤ (w.size : Int) ∧ (w.size : Int) ≤ 12)
theorem iWord_l (N : Nat) (a : ByteArray) (hs : a.size < 4611686018427387904) : ∀ (d k i : Nat), i + d = a.size → d < k → F127_l0 N a k (a.size : Int) (i : Int) = some (allF (okI a) i d && decide (1 ≤ (a.size : Int) ∧ (a.size : Int) ≤ 12)) := by
 intro d
 induction d with
 | zero =>
  intro k i h hk
  rw [F127_l0_s _ _ (by omega), F127_l0_b]
  simp only [show ¬ (i : Int) < (a.size : Int) by omega, decide_false, cond_false, F127_j0, in_v, andO_of, allF, Bool.true_and]
 | succ d ih =>
  intro k i h hk
  have hi : i < a.size := by omega
  have e0 : (((i : Nat) : Int) == 0) = decide (i = 0) := by
   rw [Bool.eq_iff_iff]; simp
  rw [F127_l0_s _ _ (by omega), F127_l0_b]
  simp only [show (i : Int) < (a.size : Int) by omega, decide_true, cond_true, gd_true (inR hi), Int.toNat_natCast, F127_j1, e0]
  rw [w64 (by omega) (by omega), show ((i : Int) + 1) = ((i + 1 : Nat) : Int) by omega, ih (k - 1) (i + 1) (by omega) (by omega)]
  simp only [allF, okI, chr]
  obtain ⟨c, hc⟩ : ∃ c : Int, ((a.data.getD i 0).toNat : Int) = c := ⟨_, rfl⟩
  simp only [hc]
  have hd : ∀ (φ : Prop) [Decidable φ], φ → decide φ = true := fun φ _ h => by simp [h]
  have hn : ∀ (φ : Prop) [Decidable φ], ¬ φ → decide φ = false := fun φ _ h => by simp [h]
  by_cases ho : (97 ≤ c ∧ c ≤ 122) ∨ (i ≠ 0 ∧ 48 ≤ c ∧ c ≤ 57)
  ·rw [hd _ ho, Bool.true_and]
   by_cases h1 : c ≥ 97
   ·by_cases h2 : c ≤ 122
    ·simp only [hd _ h1, hd _ h2, cond_true, Bool.not_true, cond_false]
    ·exfalso; omega
   ·rw [hn _ h1, cond_false, hn _ (show ¬ i = 0 by omega), cond_false, hn _ (show ¬ c < 48 by omega), cond_false, hn _ (show ¬ c > 57 by omega), cond_false]
  ·rw [hn _ ho, Bool.false_and]
   by_cases h1 : c ≥ 97
   ·by_cases h2 : c ≤ 122
    ·exfalso; omega
    ·simp only [hd _ h1, hn _ h2, cond_true, Bool.not_false, hn _ (show ¬ c < 48 by omega), hd _ (show c > 57 by omega), cond_false]
     cases decide (i = 0) <;> rfl
   ·rw [hn _ h1, cond_false]
    by_cases h0 : i = 0
    ·rw [hd _ h0, cond_true]; rfl
    ·rw [hn _ h0, cond_false]
     by_cases h3 : c < 48
     ·rw [hd _ h3, cond_true]; rfl
     ·rw [hn _ h3, cond_false, hd _ (show c > 57 by omega), cond_true]; rfl
theorem iWord_v {N : Nat} {a : ByteArray} (hs : a.size < N) (hN : a.size < 4611686018427387904) : F127 N a = some (wordB a) := by
 unfold F127
 exact iWord_l N a hN a.size N 0 (by omega) hs
theorem sWord_l (N : Nat) (a : ByteArray) (hs : a.size < 4611686018427387904) : ∀ (d k i : Nat), i + d = a.size → d < k → F160_l0 N a k (i : Int) = some (allF (okS a) i d) := by
 intro d
 induction d with
 | zero =>
  intro k i h hk
  rw [F160_l0_s _ _ (by omega), F160_l0_b]
  simp only [show ¬ (i : Int) < (a.size : Int) by omega, decide_false, cond_false, F160_j0, allF]
 | succ d ih =>
  intro k i h hk
  have hi : i < a.size := by omega
  rw [F160_l0_s _ _ (by omega), F160_l0_b]
  simp only [show (i : Int) < (a.size : Int) by omega, decide_true, cond_true, gd_true (inR hi), Int.toNat_natCast, F160_j1]
  rw [w64 (by omega) (by omega), show ((i : Int) + 1) = ((i + 1 : Nat) : Int) by omega, ih (k - 1) (i + 1) (by omega) (by omega)]
  simp only [allF, okS, chr]
  obtain ⟨c, hc⟩ : ∃ c : Int, ((a.data.getD i 0).toNat : Int) = c := ⟨_, rfl⟩
  simp only [hc]
  have hd : ∀ (φ : Prop) [Decidable φ], φ → decide φ = true := fun φ _ h => by simp [h]
  have hn : ∀ (φ : Prop) [Decidable φ], ¬ φ → decide φ = false := fun φ _ h => by simp [h]
  by_cases ho : (97 ≤ c ∧ c ≤ 122) ∨ (48 ≤ c ∧ c ≤ 57)
  ·rw [hd _ ho, Bool.true_and]
   by_cases h1 : c < 97
   ·simp only [hd _ h1, hn _ (show ¬ c < 48 by omega), hn _ (show ¬ c > 57 by omega), cond_true, cond_false]
   ·simp only [hn _ h1, hn _ (show ¬ c > 122 by omega), cond_false]
  ·rw [hn _ ho, Bool.false_and]
   by_cases h1 : c < 97
   ·by_cases h3 : c < 48
    ·simp only [hd _ h1, hd _ h3, cond_true]
    ·simp only [hd _ h1, hn _ h3, hd _ (show c > 57 by omega), cond_true, cond_false]
   ·simp only [hn _ h1, hd _ (show c > 122 by omega), cond_false, cond_true, hn _ (show ¬ c < 48 by omega), hd _ (show c > 57 by omega)]
theorem sWord_v {N : Nat} {a : ByteArray} (hs : a.size < N) (hN : a.size < 4611686018427387904) : F160 N a = some (wordB a) := by
 unfold F160
 rw [l01In_v, andO_of, wordB]
 by_cases hl : 1 ≤ (a.size : Int) ∧ (a.size : Int) ≤ 12
 ·have h0 : 0 < a.size := by omega
  simp only [hl, and_self, decide_true, Bool.not_true, cond_false, Bool.and_true]
  rw [gd_true (by simp only [InR]; omega)]
  have hl := sWord_l N a hN a.size N 0 (by omega) hs
  rw [show ((0 : Int)) = ((0 : Nat) : Int) from rfl, hl]
  obtain ⟨n, hn⟩ : ∃ n, a.size = n + 1 := ⟨a.size - 1, by omega⟩
  rw [hn]
  simp only [allF, Int.toNat_natCast]
  have hcg : ∀ j : Nat, 0 + 1 ≤ j → okI a j = okS a j := by
   intro j hj
   have : j ≠ 0 := by omega
   simp only [okI, okS, ne_eq, this, not_false_eq_true, true_and]
  rw [allF_congr hcg]
  have hc : okI a 0 = (decide (¬ chr a 0 < 97) && okS a 0) := by
   simp only [okI, okS, ne_eq, not_true_eq_false, false_and, or_false]
   rw [Bool.eq_iff_iff]
   simp only [Bool.and_eq_true, decide_eq_true_eq]
   omega
  rw [hc]
  show cond (decide (chr a 0 < 97)) _ _ = _
  by_cases h9 : chr a 0 < 97
  ·simp [h9]
  ·simp [h9]
 ·simp [hl]
theorem isCol_v (N : Nat) (x : Int) : F131 N x = some (decide (0 ≤ x ∧ x ≤ 63)) := by
 unfold F131
 rw [in_v, andO_of]
theorem isSlot_v (N : Nat) (x : Int) : F132 N x = some (decide (0 ≤ x ∧ x ≤ 39)) := by
 unfold F132
 rw [in_v, andO_of]
theorem l02Col_v (N : Nat) (x : Int) : F161 N x = some (decide (0 ≤ x ∧ x ≤ 63)) := by
 unfold F161
 rw [l01In_v, andO_of]
theorem idxFuncI_l (N : Nat) (a : List Int) (p : Int → Option Bool) (q : Int → Bool) (hp : ∀ x ∈ a, p x = some (q x)) (hs : a.length < 4611686018427387904) : ∀ (d k i : Nat), i + d = a.length → d < k →
  ∃ r : Int, F167_l0 N a p k (a.length : Int) (i : Int) = some r ∧ decide (r ≥ 0) = (a.drop i).any q := by
 intro d
 induction d with
 | zero =>
  intro k i h hk
  rw [F167_l0_s _ _ _ (by omega), F167_l0_b]
  refine ⟨-1, by simp only [show ¬ (i : Int) < (a.length : Int) by omega, decide_false, cond_false, F167_j0], ?_⟩
  rw [List.drop_eq_nil_of_le (by omega)]
  rfl
 | succ d ih =>
  intro k i h hk
  have hi : i < a.length := by omega
  rw [F167_l0_s _ _ _ (by omega), F167_l0_b]
  simp only [show (i : Int) < (a.length : Int) by omega, decide_true, cond_true, gd_true (inR hi), Int.toNat_natCast, getD_at hi, hp _ (List.getElem_mem hi), andO_of]
  rw [w64 (by omega) (by omega), show ((i : Int) + 1) = ((i + 1 : Nat) : Int) by omega, List.drop_eq_getElem_cons hi, List.any_cons]
  by_cases hx : q a[i] = true
  ·rw [hx]
   exact ⟨i, rfl, by simp⟩
  ·have hx' : q a[i] = false := by simpa using hx
   rw [hx']
   obtain ⟨r, h1, h2⟩ := ih (k - 1) (i + 1) (by omega) (by omega)
   exact ⟨r, h1, by simpa using h2⟩
theorem contFuncI_v {N : Nat} {a : List Int} {p : Int → Option Bool} {q : Int → Bool} (hp : ∀ x ∈ a, p x = some (q x)) (hs : a.length < N) (hN : a.length < 4611686018427387904) : F114 N a p = some (a.any q) := by
 unfold F114 F167
 obtain ⟨r, h1, h2⟩ := idxFuncI_l N a p q hp hN a.length N 0 (by omega) hs
 rw [show (0 : Int) = ((0 : Nat) : Int) from rfl, h1, andO_of]
 rw [show ((0 : Nat) : Int) = (0 : Int) from rfl, h2]
 rfl
theorem idxFuncN_l (N : Nat) (a : List Nd) (p : Nd → Option Bool) (q : Nd → Bool) (hp : ∀ x ∈ a, p x = some (q x)) (hs : a.length < 4611686018427387904) : ∀ (d k i : Nat), i + d = a.length → d < k →
  ∃ r : Int, F87_l0 N a p k (a.length : Int) (i : Int) = some r ∧ decide (r ≥ 0) = (a.drop i).any q := by
 intro d
 induction d with
 | zero =>
  intro k i h hk
  rw [F87_l0_s _ _ _ (by omega), F87_l0_b]
  refine ⟨-1, by simp only [show ¬ (i : Int) < (a.length : Int) by omega, decide_false, cond_false, F87_j0], ?_⟩
  rw [List.drop_eq_nil_of_le (by omega)]
  rfl
 | succ d ih =>
  intro k i h hk
  have hi : i < a.length := by omega
  rw [F87_l0_s _ _ _ (by omega), F87_l0_b]
  simp only [show (i : Int) < (a.length : Int) by omega, decide_true, cond_true, gd_true (inR hi), Int.toNat_natCast, getD_at hi, hp _ (List.getElem_mem hi), andO_of]
  rw [w64 (by omega) (by omega), show ((i : Int) + 1) = ((i + 1 : Nat) : Int) by omega, List.drop_eq_getElem_cons hi, List.any_cons]
  by_cases hx : q a[i] = true
  ·rw [hx]
   exact ⟨i, rfl, by simp⟩
  ·have hx' : q a[i] = false := by simpa using hx
   rw [hx']
   obtain ⟨r, h1, h2⟩ := ih (k - 1) (i + 1) (by omega) (by omega)
   exact ⟨r, h1, by simpa using h2⟩
theorem contFuncN_v {N : Nat} {a : List Nd} {p : Nd → Option Bool} {q : Nd → Bool} (hp : ∀ x ∈ a, p x = some (q x)) (hs : a.length < N) (hN : a.length < 4611686018427387904) : F48 N a p = some (a.any q) := by
 unfold F48 F87
 obtain ⟨r, h1, h2⟩ := idxFuncN_l N a p q hp hN a.length N 0 (by omega) hs
 rw [show (0 : Int) = ((0 : Nat) : Int) from rfl, h1, andO_of]
 rw [show ((0 : Nat) : Int) = (0 : Int) from rfl, h2]
 rfl
theorem equalI_l (N : Nat) (a b : List Int) (hl : a.length = b.length) (hs : a.length < 4611686018427387904) : ∀ (d k i : Nat), i + d = a.length → d < k → F70_l0 N a b k (a.length : Int) (i : Int) = some (decide (a.drop i = b.drop i)) := by
 intro d
 induction d with
 | zero =>
  intro k i h hk
  rw [F70_l0_s _ _ _ (by omega), F70_l0_b]
  simp only [show ¬ (i : Int) < (a.length : Int) by omega, decide_false, cond_false, F70_j0]
  rw [List.drop_eq_nil_of_le (by omega), List.drop_eq_nil_of_le (by omega)]
  rfl
 | succ d ih =>
  intro k i h hk
  have hi : i < a.length := by omega
  have hi' : i < b.length := by omega
  rw [F70_l0_s _ _ _ (by omega), F70_l0_b]
  simp only [show (i : Int) < (a.length : Int) by omega, decide_true, cond_true, gd_true (inR hi), gd_true (inR hi'), Int.toNat_natCast, getD_at hi, getD_at hi']
  rw [w64 (by omega) (by omega), show ((i : Int) + 1) = ((i + 1 : Nat) : Int) by omega, ih (k - 1) (i + 1) (by omega) (by omega)]
  by_cases hx : a[i] = b[i]
  ·simp only [hx, bne_self_eq_false, cond_false, drop_eq_iff hi hi', true_and]
  ·have : (a[i] != b[i]) = true := by simp [hx]
   simp only [this, cond_true, drop_eq_iff hi hi', hx, false_and, decide_false]
theorem equalI_v {N : Nat} {a b : List Int} (hs : a.length < N) (hN : a.length < 4611686018427387904) : F70 N a b = some (decide (a = b)) := by
 unfold F70
 rw [bne_len]
 by_cases hl : a.length = b.length
 ·simp only [hl, ne_eq, not_true_eq_false, decide_false, cond_false]
  have := equalI_l N a b hl hN a.length N 0 (by omega) hs
  rw [hl] at this
  simpa using this
 ·have : a ≠ b := fun e => hl (by rw [e])
  simp [hl, this]
def sameB (a b : Nd) : Bool := a.1 == b.1 && (a.2.1.toList == b.2.1.toList && (a.2.2.1 == b.2.2.1 && (a.2.2.2.1 == b.2.2.2.1 && (a.2.2.2.2.1 == b.2.2.2.2.1 && (a.2.2.2.2.2.1 == b.2.2.2.2.2.1 && decide (a.2.2.2.2.2.2 = b.2.2.2.2.2.2))))))
theorem cond_and (a b : Bool) : (cond a (some b) (some false)) = some (a && b) := by cases a <;> rfl
theorem sameNode_v {N : Nat} {a b : Nd} (hs : a.2.2.2.2.2.2.length < N) (hN : a.2.2.2.2.2.2.length < 4611686018427387904) : F43 N a b = some (sameB a b) := by
 unfold F43
 rw [equalI_v hs hN, andO_of]
 simp only [cond_and, sameB]
def nodeB (a : Nd) : Bool :=
 let e := a.2.1.toList == ByteArray.empty.toList
 let col := decide (0 ≤ a.2.2.1 ∧ a.2.2.1 ≤ 63)
 let cz := a.2.2.1 == 0
 let oz := a.2.2.2.1 == 0
 let nz := a.2.2.2.2.1 == 0
 let sl := a.2.2.2.2.2.1
 let nc := decide (a.2.2.2.2.2.2 = [])
 let s39 := decide (0 ≤ a.2.2.2.2.1 ∧ a.2.2.2.2.1 ≤ 39)
 cond (a.1 == 0) (wordB a.2.1 && cz && oz && nz && !sl && nc)
  (cond (a.1 == 1) (e && nc && col && decide (0 ≤ a.2.2.2.1 ∧ a.2.2.2.1 ≤ 3) && (cond (a.2.2.2.1 == 3) (nz && !sl) (cond sl s39 (decide (Num a.2.2.2.2.1)))))
  (cond (a.1 == 2) (e && decide (1 ≤ (a.2.2.2.2.2.2.length : Int) ∧ (a.2.2.2.2.2.2.length : Int) ≤ 6) && a.2.2.2.2.2.2.all (fun x => decide (0 ≤ x ∧ x ≤ 63)) && cz && oz && nz && !sl)
  (cond (a.1 == 3) (e && nc && col && decide (0 ≤ a.2.2.2.2.1 ∧ a.2.2.2.2.1 ≤ 63) && oz && !sl)
  (cond (a.1 == 5) (e && nc && col && nz && oz && !sl)
  (cond (a.1 == 6) (e && nc && decide (0 ≤ a.2.2.2.2.1 ∧ a.2.2.2.2.1 ≤ 1000000) && (!sl || s39) && cz && oz)
  ((a.1 == 4 || a.1 == 7) && e && nc && cz && oz && nz && !sl))))))
theorem nodeOk_j0 {N : Nat} (b : ByteArray) (c d e : Int) (s : Bool) (l : List Int) (g : Bool) (hs : l.length < N) (hN : l.length < 4611686018427387904) : F82_j0 N b c d e s l g = some (g && ((b.toList == ByteArray.empty.toList) && (c == 0 && (d == 0 && (e == 0 && (!s && decide (l = []))))))) := by
 unfold F82_j0
 rw [sameNode_v hs hN, andO_of, cond_and]
 simp only [sameB, beq_self_eq_true, Bool.true_and]
 cases s <;> simp
theorem iNodeOk1_v (N : Nat) (x : Int) : F134 N x = some (!decide (0 ≤ x ∧ x ≤ 63)) := by
 unfold F134
 rw [isCol_v, andO_of]
theorem iNodeOk_v {N : Nat} {a : Nd} (h0 : 0 < N) (hw : a.2.1.size < N) (hs : a.2.2.2.2.2.2.length < N) (hN : a.2.2.2.2.2.2.length < 4611686018427387904) (hw2 : a.2.1.size < 4611686018427387904) : F82 N a = some (nodeB a) := by
 obtain ⟨kind, name, col, op, num, slot, cols⟩ := a
 simp only at hw hs hN hw2
 unfold F82
 have hany : (cols.any fun x => !decide (0 ≤ x ∧ x ≤ 63)) = !(cols.all fun x => decide (0 ≤ x ∧ x ≤ 63)) := by
  rw [List.not_all_eq_any_not]
 simp only [F82_j1, F82_j2, F82_j3, nodeOk_j0 _ _ _ _ _ _ _ hs hN, nodeOk_j0 _ _ _ _ _ ([] : List Int) _ (show ([] : List Int).length < N from h0) (show ([] : List Int).length < 4611686018427387904 by simp), iWord_v hw hw2, isCol_v, isSlot_v, isNum_v, in_v, andO_of,
  contFuncI_v (p := fun z0 => F134 N z0) (q := fun x => !decide (0 ≤ x ∧ x ≤ 63)) (fun x _ => iNodeOk1_v N x) hs hN, hany, nodeB, beq_self_eq_true, Bool.true_and, Bool.not_not, decide_true]
 generalize (name.toList == ByteArray.empty.toList) = e
 generalize wordB name = w
 generalize (decide (0 ≤ col ∧ col ≤ 63)) = cB
 generalize (decide (0 ≤ op ∧ op ≤ 3)) = oB
 generalize (decide (Num num)) = nB
 generalize (decide (0 ≤ num ∧ num ≤ 39)) = s39
 generalize (decide (0 ≤ num ∧ num ≤ 63)) = n63
 generalize (decide (0 ≤ num ∧ num ≤ 1000000)) = nL
 generalize (decide (1 ≤ (cols.length : Int) ∧ (cols.length : Int) ≤ 6)) = lB
 generalize (cols.all fun x => decide (0 ≤ x ∧ x ≤ 63)) = aB
 generalize (decide (cols = [])) = nc
 generalize (col == 0) = cz
 generalize (op == 0) = oz
 generalize (num == 0) = nz
 generalize (op == 3) = o3
 generalize (kind == 0) = q0
 generalize (kind == 1) = q1
 generalize (kind == 2) = q2
 generalize (kind == 3) = q3
 generalize (kind == 4) = q4
 generalize (kind == 5) = q5
 generalize (kind == 6) = q6
 generalize (kind == 7) = q7
 clear hany
 cases q0 <;> simp only [cond_true, cond_false]
 cases q1 <;> simp only [cond_true, cond_false]
 cases q2 <;> simp only [cond_true, cond_false]
 cases q3 <;> simp only [cond_true, cond_false]
 cases q5 <;> simp only [cond_true, cond_false]
 cases q6 <;> simp only [cond_true, cond_false]
 ·revert q4 q7 e nc cz oz nz slot; decide +kernel
 ·revert e nc nL slot s39 cz oz; decide +kernel
 ·revert e nc cB nz oz slot; decide +kernel
 ·revert e nc cB n63 oz slot; decide +kernel
 ·revert e lB aB cz oz nz slot; decide +kernel
 ·revert e nc cB oB o3 nz slot s39 nB; decide +kernel
 ·revert w cz oz nz slot nc; decide +kernel
theorem sNode_l (N : Nat) (c n : Int) (sl : Bool) (a : List Int) (hs : a.length < 4611686018427387904) : ∀ (d k i : Nat), i + d = a.length → d < k → F97_l0 N c n sl a k (i : Int) = some ((a.drop i).all (fun x => decide (0 ≤ x ∧ x ≤ 63)) && (decide (1 ≤ (a.length : Int) ∧ (a.length : Int) ≤ 6) && (c == 0 && (n == 0 && !sl)))) := by
 intro d
 induction d with
 | zero =>
  intro k i h hk
  rw [F97_l0_s _ _ _ _ _ (by omega), F97_l0_b]
  simp only [show ¬ (i : Int) < (a.length : Int) by omega, decide_false, cond_false, F97_j1, l01In_v, andO_of, cond_and]
  rw [List.drop_eq_nil_of_le (by omega)]
  rfl
 | succ d ih =>
  intro k i h hk
  have hi : i < a.length := by omega
  rw [F97_l0_s _ _ _ _ _ (by omega), F97_l0_b]
  simp only [show (i : Int) < (a.length : Int) by omega, decide_true, cond_true, gd_true (inR hi), Int.toNat_natCast, getD_at hi, l02Col_v, andO_of]
  rw [w64 (by omega) (by omega), show ((i : Int) + 1) = ((i + 1 : Nat) : Int) by omega, ih (k - 1) (i + 1) (by omega) (by omega), List.drop_eq_getElem_cons hi, List.all_cons]
  generalize (decide (0 ≤ a[i] ∧ a[i] ≤ 63)) = b
  cases b <;> simp
theorem sNodeOk_v {N : Nat} {a : Nd} (hw : a.2.1.size < N) (hs : a.2.2.2.2.2.2.length < N) (hN : a.2.2.2.2.2.2.length < 4611686018427387904) (hw2 : a.2.1.size < 4611686018427387904) : F97 N a = some (nodeB a) := by
 obtain ⟨kind, name, col, op, num, slot, cols⟩ := a
 simp only at hw hs hN hw2
 unfold F97
 have hlen : (decide ((cols.length : Int) > 0)) = !decide (cols = []) := by
  cases cols with
  | nil => rfl
  | cons x l => simp
 have hl := sNode_l N col num slot cols hN cols.length N 0 (by omega) hs
 rw [show (((0 : Nat)) : Int) = 0 from rfl, List.drop_zero] at hl
 simp only [F97_j0, F97_j2, F97_j3, hl, sWord_v hw hw2, l02Col_v, l01Number_v, l01In_v, andO_of, hlen, nodeB, bne]
 have i1 : num == 0 → decide (Num num) := by
  intro h; have : num = 0 := by simpa using h
  subst this; decide
 have i2 : decide (0 ≤ num ∧ num ≤ 39) → decide (Num num) := by
  intro h; have : 0 ≤ num ∧ num ≤ 39 := by simpa using h
  exact decide_eq_true (show -1000000 ≤ num ∧ num ≤ 1000000 by omega)
 have x01 : kind == 0 → (kind == 1) = false := by
  intro h; have : kind = 0 := by simpa using h
  subst this; decide
 have x02 : kind == 0 → (kind == 2) = false := by
  intro h; have : kind = 0 := by simpa using h
  subst this; decide
 have x12 : kind == 1 → (kind == 2) = false := by
  intro h; have : kind = 1 := by simpa using h
  subst this; decide
 clear hl hlen
 generalize (name.toList == ByteArray.empty.toList) = e
 generalize wordB name = w
 generalize (decide (0 ≤ col ∧ col ≤ 63)) = cB
 generalize (decide (0 ≤ op ∧ op ≤ 3)) = oB
 generalize (decide (Num num)) = nB at i1 i2 ⊢
 generalize (decide (0 ≤ num ∧ num ≤ 39)) = s39 at i2 ⊢
 generalize (decide (0 ≤ num ∧ num ≤ 63)) = n63
 generalize (decide (0 ≤ num ∧ num ≤ 1000000)) = nL
 generalize (decide (1 ≤ (cols.length : Int) ∧ (cols.length : Int) ≤ 6)) = lB
 generalize (cols.all fun x => decide (0 ≤ x ∧ x ≤ 63)) = aB
 generalize (decide (cols = [])) = nc
 generalize (col == 0) = cz
 generalize (op == 0) = oz
 generalize (num == 0) = nz at i1 ⊢
 generalize (op == 3) = o3
 generalize (kind == 0) = q0 at x01 x02 ⊢
 generalize (kind == 1) = q1 at x01 x12 ⊢
 generalize (kind == 2) = q2 at x02 x12 ⊢
 generalize (kind == 3) = q3
 generalize (kind == 4) = q4
 generalize (kind == 5) = q5
 generalize (kind == 6) = q6
 generalize (kind == 7) = q7
 cases q0
 ·cases q1
  ·cases q2 <;> simp only [cond_true, cond_false, Bool.not_true, Bool.not_false]
   ·cases q3 <;> simp only [cond_true, cond_false]
    ·cases q5 <;> simp only [cond_true, cond_false]
     ·cases q6 <;> simp only [cond_true, cond_false]
      ·clear i1 i2 x01 x02 x12; revert q4 q7 e nc cz oz nz slot s39; decide +kernel
      ·clear i1 i2 x01 x02 x12; revert e nc nL slot s39 cz oz; decide +kernel
     ·clear i1 i2 x01 x02 x12; revert e nc cB nz oz slot s39; decide +kernel
    ·clear i1 i2 x01 x02 x12; revert e nc cB n63 oz slot s39; decide +kernel
   ·clear i1 i2 x01 x02 x12; revert e lB aB cz oz nz slot s39; decide +kernel
  ·have := x12 rfl; subst this
   simp only [cond_true, cond_false, Bool.not_true, Bool.not_false]
   clear x01 x02 x12
   revert i1 i2
   revert e nc cB oB o3 nz slot s39 nB; decide +kernel
 ·have h1 := x01 rfl; have h2 := x02 rfl; subst h1; subst h2
  simp only [cond_true, cond_false, Bool.not_true, Bool.not_false]
  clear i1 i2 x01 x02 x12
  revert e w cz oz nz slot nc s39; decide +kernel
end Go.Proofs.YtmkhmpcealeidaaGreat.Vc
namespace Go.Proofs.YtmkhmpcealeidaaGreat.Vc
open Go Go.RowKit
set_option linter.unusedVariables false
set_option linter.unusedSimpArgs false
abbrev ndT : Ty := .pair (.int .i64) (.pair .str (.pair (.int .i64) (.pair (.int .i64) (.pair (.int .i64) (.pair .bool (.sl (.int .i64)))))))
def Fits (p : List Nd) : Prop := p.length ≤ 1048576 ∧ ∀ x ∈ p, x.2.1.size ≤ 1048576 ∧ x.2.2.2.2.2.2.length ≤ 1048576
theorem lim_nd : 1048576 ≤ lim ndT := by decide +kernel
theorem arity_same (N : Nat) (k : Int) : F135 N k = F129 N k := rfl
theorem arity_v (N : Nat) (k : Int) : ∃ r : Int, F129 N k = some r ∧ r ≤ 2 := by
 unfold F129
 simp only [F129_j1, F129_j0]
 generalize (k == 0) = q0
 generalize (k == 1) = q1
 generalize (k == 2) = q2
 generalize (k == 3) = q3
 generalize (k == 4) = q4
 generalize (k == 5) = q5
 generalize (k == 6) = q6
 generalize (k == 7) = q7
 cases q0 <;> cases q3 <;> cases q4 <;> cases q1 <;> cases q2 <;> cases q5 <;> cases q6 <;> cases q7 <;> exact ⟨_, rfl, by omega⟩
theorem ends_l (N : Nat) (p : List Nd) (at_ : Nat) (hat : at_ < p.length) (hp : p.length ≤ 1048576) (room : Nat) (hroom : room ≤ 9) (si : List Nd → Int → Int → Option Int) (ss : List Nd → Int → Int → Option (Int × Int))
  (ih : ∀ x : Nat, x ≤ p.length → ∃ e d : Int, si p x (11 - (room : Int)) = some e ∧ ss p x (room : Int) = some (e, d) ∧ (e = -1 ∨ ((x : Int) < e ∧ e ≤ p.length)) ∧ 0 ≤ d ∧ d ≤ room)
  (ar : Int) (har : F129 N p[at_].1 = some ar) (har2 : ar ≤ 2) : ∀ (m k1 k2 x t : Nat) (dd : Int), ar ≤ (t : Int) + m → t ≤ 2 → t + m ≤ 3 → m < k1 → m < k2 → at_ < x → x ≤ p.length → 0 ≤ dd → dd ≤ room →
  ∃ e d : Int, F83_l0 N p (10 - (room : Int)) si ar k1 x t = some e ∧ F98_l0 N p at_ ((room : Int) + 1) ss k2 x dd t = some (e, d) ∧ (e = -1 ∨ ((at_ : Int) < e ∧ e ≤ p.length)) ∧ 0 ≤ d ∧ d ≤ room + 1 := by
 intro m
 induction m with
 | zero =>
  intro k1 k2 x t dd h1 ht h2 hk1 hk2 hx hx2 hd hd2
  rw [F83_l0_s _ _ _ _ _ (by omega), F83_l0_b, F98_l0_s _ _ _ _ _ (by omega), F98_l0_b]
  simp only [gd_true (inR hat), Int.toNat_natCast, getD_at hat, har, andO_of, show ¬ (t : Int) < ar by omega, decide_false, cond_false, F83_j0, F98_j0]
  rw [w64 (by omega) (by omega)]
  exact ⟨x, dd + 1, rfl, rfl, .inr ⟨by omega, by omega⟩, by omega, by omega⟩
 | succ m ihm =>
  intro k1 k2 x t dd h1 ht h2 hk1 hk2 hx hx2 hd hd2
  rw [F83_l0_s _ _ _ _ _ (by omega), F83_l0_b, F98_l0_s _ _ _ _ _ (by omega), F98_l0_b]
  simp only [gd_true (inR hat), Int.toNat_natCast, getD_at hat, har, andO_of, F83_j0, F98_j0, F98_j1]
  by_cases hlt : (t : Int) < ar
  ·obtain ⟨e, d, e1, e2, e3, e4, e5⟩ := ih x hx2
   simp only [hlt, decide_true, cond_true]
   rw [w64 (x := 10 - (room : Int) + 1) (by omega) (by omega), w64 (x := (room : Int) + 1 - 1) (by omega) (by omega), show 10 - (room : Int) + 1 = 11 - (room : Int) by omega, show (room : Int) + 1 - 1 = (room : Int) by omega, e1, e2, andO_of, andO_of]
   simp only
   by_cases hn : e < 0
   ·simp only [hn, decide_true, cond_true]
    exact ⟨-1, 0, rfl, rfl, .inl rfl, by omega, by omega⟩
   ·simp only [hn, decide_false, cond_false]
    obtain ⟨e', rfl⟩ : ∃ e' : Nat, e = (e' : Int) := ⟨e.toNat, by omega⟩
    rw [w64 (x := (t : Int) + 1) (by omega) (by omega), show (t : Int) + 1 = ((t + 1 : Nat) : Int) by omega]
    by_cases hgt : d > dd
    ·simp only [hgt, decide_true, cond_true]
     exact ihm (k1 - 1) (k2 - 1) e' (t + 1) d (by omega) (by omega) (by omega) (by omega) (by omega) (by omega) (by omega) (by omega) (by omega)
    ·simp only [hgt, decide_false, cond_false]
     exact ihm (k1 - 1) (k2 - 1) e' (t + 1) dd (by omega) (by omega) (by omega) (by omega) (by omega) (by omega) (by omega) (by omega) (by omega)
  ·simp only [hlt, decide_false, cond_false]
   rw [w64 (by omega) (by omega)]
   exact ⟨x, dd + 1, rfl, rfl, .inr ⟨by omega, by omega⟩, by omega, by omega⟩
theorem ends (N : Nat) (p : List Nd) (hp : p.length ≤ 1048576) (hN : 3 < N) : ∀ (room k1 k2 x : Nat), room ≤ 10 → room < k1 → room < k2 → x ≤ p.length →
  ∃ e d : Int, F83_r N k1 p x (11 - (room : Int)) = some e ∧ F98_r N k2 p x (room : Int) = some (e, d) ∧ (e = -1 ∨ ((x : Int) < e ∧ e ≤ p.length)) ∧ 0 ≤ d ∧ d ≤ room := by
 intro room
 induction room with
 | zero =>
  intro k1 k2 x hr hk1 hk2 hx
  rw [F83_s _ (by omega), F83_b, F98_s _ (by omega), F98_b]
  by_cases hge : (x : Int) ≥ (p.length : Int)
  ·simp only [hge, decide_true, cond_true]
   exact ⟨-1, 0, rfl, rfl, .inl rfl, by omega, by omega⟩
  ·simp only [hge, decide_false, cond_false, show (11 - ((0 : Nat) : Int)) > 10 by omega, decide_true, cond_true]
   exact ⟨-1, 0, rfl, rfl, .inl rfl, by omega, by omega⟩
 | succ room ih =>
  intro k1 k2 x hr hk1 hk2 hx
  rw [F83_s _ (by omega), F83_b, F98_s _ (by omega), F98_b]
  by_cases hge : (x : Int) ≥ (p.length : Int)
  ·simp only [hge, decide_true, cond_true]
   exact ⟨-1, 0, rfl, rfl, .inl rfl, by omega, by omega⟩
  ·have hi : x < p.length := by omega
   have hz : ((((room + 1 : Nat)) : Int) == 0) = false := by
    rw [beq_eq_false_iff_ne]; omega
   obtain ⟨ar, har, har2⟩ := arity_v N p[x].1
   simp only [hge, decide_false, cond_false, show ¬ (11 - ((room + 1 : Nat) : Int)) > 10 by omega, hz, gd_true (inR hi), Int.toNat_natCast, getD_at hi, arity_same, har, andO_of]
   rw [w64 (x := (x : Int) + 1) (by omega) (by omega), show (x : Int) + 1 = ((x + 1 : Nat) : Int) by omega, show (11 - ((room + 1 : Nat) : Int)) = 10 - (room : Int) by omega, show (((room + 1 : Nat)) : Int) = (room : Int) + 1 by omega]
   have := ends_l N p x hi hp room (by omega) (F83_r N (k1 - 1)) (F98_r N (k2 - 1)) (fun y hy => ih (k1 - 1) (k2 - 1) y (by omega) (by omega) (by omega) hy) ar har har2 3 N N (x + 1) 0 0 (by omega) (by omega) (by omega) (by omega) (by omega) (by omega) (by omega) (by omega) (by omega)
   exact this
theorem iPlanOk1_v {N : Nat} {x : Nd} (hN : 1048576 < N) (hx : x.2.1.size ≤ 1048576 ∧ x.2.2.2.2.2.2.length ≤ 1048576) : F81 N x = some (!nodeB x) := by
 unfold F81
 rw [iNodeOk_v (by omega) (by omega) (by omega) (by omega) (by omega), andO_of]
theorem sPlan_l (N : Nat) (p : List Nd) (hf : Fits p) (hN : 1048576 < N) (z : Bool) (hz : F54_j0 N p = some z) : ∀ (d k i : Nat), i + d = p.length → d < k → F54_l0 N p k (i : Int) = some ((p.drop i).all nodeB && z) := by
 intro d
 have hs := hf.1
 induction d with
 | zero =>
  intro k i h hk
  rw [F54_l0_s _ _ (by omega), F54_l0_b]
  simp only [show ¬ (i : Int) < (p.length : Int) by omega, decide_false, cond_false, hz]
  rw [List.drop_eq_nil_of_le (by omega)]
  rfl
 | succ d ih =>
  intro k i h hk
  have hi : i < p.length := by omega
  have hm := hf.2 _ (List.getElem_mem hi)
  rw [F54_l0_s _ _ (by omega), F54_l0_b]
  simp only [show (i : Int) < (p.length : Int) by omega, decide_true, cond_true, gd_true (inR hi), Int.toNat_natCast, getD_at hi, sNodeOk_v (show _ < N by omega) (show _ < N by omega) (show p[i].2.2.2.2.2.2.length < 4611686018427387904 by omega) (by omega), andO_of]
  rw [w64 (by omega) (by omega), show ((i : Int) + 1) = ((i + 1 : Nat) : Int) by omega, ih (k - 1) (i + 1) (by omega) (by omega), List.drop_eq_getElem_cons hi, List.all_cons]
  cases nodeB p[i] <;> rfl
theorem planOk_v {N : Nat} {p : List Nd} (hf : Fits p) (hN : 1048576 < N) : ∃ b, F44 N p = some b ∧ F54 N p = some b ∧ (b = true → p.length ≤ 40 ∧ ∀ x ∈ p, nodeB x = true) := by
 have hs := hf.1
 unfold F44 F54
 obtain ⟨e, d, e1, e2, e3, e4, e5⟩ := ends N p hs (by omega) 10 N N 0 (by omega) (by omega) (by omega) (by omega)
 have e1' : F83 N p (0 : Int) (1 : Int) = some e := e1
 have e2' : F98 N p (0 : Int) (10 : Int) = some (e, d) := e2
 have hj : F54_j0 N p = some (e == (p.length : Int)) := by
  unfold F54_j0
  rw [e2', andO_of]
 have hl := sPlan_l N p hf hN _ hj p.length N 0 (by omega) (by omega)
 rw [show (((0 : Nat)) : Int) = 0 from rfl, List.drop_zero] at hl
 rw [in_v, l01In_v, andO_of, andO_of, hl, contFuncN_v (q := fun x => !nodeB x) (fun x hx => iPlanOk1_v hN (hf.2 x hx)) (by omega) (by omega), andO_of, e1', andO_of]
 have hany : (p.any fun x => !nodeB x) = !(p.all nodeB) := by
  rw [List.not_all_eq_any_not]
 rw [hany]
 by_cases hb : (1 : Int) ≤ (p.length : Int) ∧ (p.length : Int) ≤ 40
 ·simp only [hb, and_self, decide_true, Bool.not_true, cond_false]
  cases ha : p.all nodeB with
  | false => exact ⟨false, rfl, rfl, fun h => by cases h⟩
  | true =>
   refine ⟨e == (p.length : Int), rfl, rfl, fun _ => ⟨by omega, fun x hx => ?_⟩⟩
   exact List.all_eq_true.mp ha x hx
 ·simp only [hb, decide_false, Bool.not_false, cond_true]
  exact ⟨false, rfl, rfl, fun h => by cases h⟩
end Go.Proofs.YtmkhmpcealeidaaGreat.Vc
namespace Go.Proofs.YtmkhmpcealeidaaGreat.Vc
open Go Go.RowKit
set_option linter.unusedVariables false
set_option linter.unusedSimpArgs false
theorem slot_num {a : Nd} (h : nodeB a = true) (hs : a.2.2.2.2.2.1 = true) : 0 ≤ a.2.2.2.2.1 ∧ a.2.2.2.2.1 ≤ 39 := by
 obtain ⟨kind, name, col, op, num, slot, cols⟩ := a
 simp only at hs ⊢
 subst hs
 rw [← decide_eq_true_eq (p := 0 ≤ num ∧ num ≤ 39)]
 simp only [nodeB, Bool.not_true, Bool.and_false, Bool.false_and] at h
 generalize (decide (0 ≤ num ∧ num ≤ 39)) = s39 at h ⊢
 generalize (kind == 0) = q0 at h
 generalize (kind == 1) = q1 at h
 generalize (kind == 2) = q2 at h
 generalize (kind == 3) = q3 at h
 generalize (kind == 5) = q5 at h
 generalize (kind == 6) = q6 at h
 generalize (op == 3) = o3 at h
 cases q0 <;> simp only [cond_true, cond_false] at h
 ·cases q1 <;> simp only [cond_true, cond_false] at h
  ·cases q2 <;> simp only [cond_true, cond_false] at h
   ·cases q3 <;> simp only [cond_true, cond_false] at h
    ·cases q5 <;> simp only [cond_true, cond_false] at h
     ·cases q6 <;> simp only [cond_true, cond_false] at h
      ·cases h
      ·cases s39
       ·simp at h
       ·rfl
     ·cases h
    ·cases h
   ·cases h
  ·cases o3
   ·cases s39
    ·simp at h
    ·rfl
   ·simp at h
 ·cases h
def stepS (x : Int) (out : List Int) (nd : Nd) : List Int := cond (nd.2.2.2.2.2.1 && (nd.2.2.2.2.1 == x && !decide (x ∈ out))) (out ++ [x]) out
theorem stepS_len (x : Int) (out : List Int) (nd : Nd) : (stepS x out nd).length ≤ out.length + 1 := by
 unfold stepS
 cases (nd.2.2.2.2.2.1 && (nd.2.2.2.2.1 == x && !decide (x ∈ out))) <;> simp
theorem foldS_len (x : Int) : ∀ (p : List Nd) (out : List Int), (p.foldl (stepS x) out).length ≤ out.length + p.length
 | [], out => by simp
 | nd :: p, out => by
  have h1 := foldS_len x p (stepS x out nd)
  have h2 := stepS_len x out nd
  simp only [List.foldl_cons, List.length_cons]
  omega
theorem stepS_mem (x y : Int) (out : List Int) (nd : Nd) : y ∈ stepS x out nd ↔ y ∈ out ∨ (y = x ∧ nd.2.2.2.2.2.1 = true ∧ nd.2.2.2.2.1 = x) := by
 unfold stepS
 cases hs : nd.2.2.2.2.2.1
 ·simp
 ·by_cases hx : nd.2.2.2.2.1 = x
  ·by_cases hm : x ∈ out
   ·simp only [hm, decide_true, Bool.not_true, Bool.and_false, cond_false]
    constructor
    ·exact .inl
    ·rintro (h | ⟨rfl, -⟩)
     ·exact h
     ·exact hm
   ·simp [hx, hm]
  ·have he : (nd.2.2.2.2.1 == x) = false := by rw [beq_eq_false_iff_ne]; exact hx
   simp [hx, he]
theorem foldS_mem (x y : Int) : ∀ (p : List Nd) (out : List Int), y ∈ p.foldl (stepS x) out ↔ y ∈ out ∨ (y = x ∧ ∃ nd ∈ p, nd.2.2.2.2.2.1 = true ∧ nd.2.2.2.2.1 = x)
 | [], out => by simp
 | nd :: p, out => by
  rw [List.foldl_cons, foldS_mem x y p, stepS_mem]
  simp only [List.mem_cons, exists_eq_or_imp]
  constructor
  ·rintro ((h | ⟨h1, h2⟩) | ⟨h1, h2⟩)
   ·exact .inl h
   ·exact .inr ⟨h1, .inl h2⟩
   ·exact .inr ⟨h1, .inr h2⟩
  ·rintro (h | ⟨h1, h2 | h2⟩)
   ·exact .inl (.inl h)
   ·exact .inl (.inr ⟨h1, h2⟩)
   ·exact .inr ⟨h1, h2⟩
def slotsS (p : List Nd) (l : List Nat) (out : List Int) : List Int := l.foldl (fun o (x : Nat) => p.foldl (stepS (x : Int)) o) out
theorem slotsS_mem (p : List Nd) (y : Int) : ∀ (l : List Nat) (out : List Int), y ∈ slotsS p l out ↔ y ∈ out ∨ ∃ x ∈ l, y = (x : Int) ∧ ∃ nd ∈ p, nd.2.2.2.2.2.1 = true ∧ nd.2.2.2.2.1 = (x : Int)
 | [], out => by simp [slotsS]
 | x :: l, out => by
  have h := slotsS_mem p y l (p.foldl (stepS (x : Int)) out)
  simp only [slotsS, List.foldl_cons] at h ⊢
  rw [h, foldS_mem]
  simp only [List.mem_cons, exists_eq_or_imp, or_assoc]
theorem slotsIn_l (N : Nat) (p : List Nd) (hs : p.length ≤ 40) (hN : 1048576 < N) (nx : List Int → Int → Option (List Int)) (x : Nat) (hx : x ≤ 40) : ∀ (d k i : Nat) (out : List Int), i + d = p.length → d < k → out.length + d ≤ 100000 →
  F77_l0 N p nx (x : Int) k out (i : Int) = nx ((p.drop i).foldl (stepS (x : Int)) out) ((x + 1 : Nat) : Int) := by
 intro d
 have hlim := lim_i64
 induction d with
 | zero =>
  intro k i out h hk ho
  rw [F77_l0_s _ _ _ _ (by omega), F77_l0_b]
  simp only [show ¬ (i : Int) < (p.length : Int) by omega, decide_false, cond_false, F77_j1]
  rw [List.drop_eq_nil_of_le (by omega), w64 (by omega) (by omega)]
  rfl
 | succ d ih =>
  intro k i out h hk ho
  have hi : i < p.length := by omega
  have h1 := stepS_len (x : Int) out p[i]
  rw [F77_l0_s _ _ _ _ (by omega), F77_l0_b]
  simp only [show (i : Int) < (p.length : Int) by omega, decide_true, cond_true, gd_true (inR hi), Int.toNat_natCast, getD_at hi, F77_j2]
  rw [w64 (by omega) (by omega), show ((i : Int) + 1) = ((i + 1 : Nat) : Int) by omega, ih (k - 1) (i + 1) out (by omega) (by omega) (by omega), l01Has_v (by omega) (by omega), andO_of, gd_true (show out.length + [(x : Int)].length ≤ lim (.int .i64) by simp; omega), ih (k - 1) (i + 1) (out ++ [(x : Int)]) (by omega) (by omega) (by simp; omega)]
  rw [List.drop_eq_getElem_cons hi, List.foldl_cons]
  have hst : stepS (x : Int) out p[i] = cond (p[i].2.2.2.2.2.1 && (p[i].2.2.2.2.1 == (x : Int) && !decide ((x : Int) ∈ out))) (out ++ [(x : Int)]) out := rfl
  rw [hst]
  cases p[i].2.2.2.2.2.1 with
  | false => rfl
  | true =>
   cases (p[i].2.2.2.2.1 == (x : Int)) with
   | false => rfl
   | true => cases decide ((x : Int) ∈ out) <;> rfl
theorem slotsOut_l (N : Nat) (p : List Nd) (hs : p.length ≤ 40) (hN : 1048576 < N) : ∀ (m k j : Nat) (out : List Int), j + m = 40 → m < k → out.length + m * 40 ≤ 100000 →
  F77_l1 N p k out (j : Int) = some (slotsS p (List.range' j m) out) := by
 intro m
 induction m with
 | zero =>
  intro k j out h hk ho
  rw [F77_l1_s _ _ (by omega), F77_l1_b]
  simp only [show ¬ (j : Int) < 40 by omega, decide_false, cond_false, F77_j0]
  rfl
 | succ m ih =>
  intro k j out h hk ho
  rw [F77_l1_s _ _ (by omega), F77_l1_b]
  simp only [show (j : Int) < 40 by omega, decide_true, cond_true]
  have h1 := foldS_len (j : Int) p out
  have hi := slotsIn_l N p hs hN (F77_l1 N p (k - 1)) j (by omega) p.length N 0 out (by omega) (by omega) (by omega)
  rw [show (((0 : Nat)) : Int) = 0 from rfl, List.drop_zero] at hi
  rw [hi, ih (k - 1) (j + 1) _ (by omega) (by omega) (by omega)]
  rfl
theorem slotsOf_v {N : Nat} {p : List Nd} (hf : Fits p) (hN : 1048576 < N) {b : Bool} (hb : F54 N p = some b) (h40 : b = true → p.length ≤ 40) : F77 N p = some (cond b (slotsS p (List.range' 0 40) []) []) := by
 unfold F77
 rw [hb, andO_of]
 cases b with
 | false => rfl
 | true => exact slotsOut_l N p (h40 rfl) hN 40 N 0 [] (by omega) (by omega) (by simp)
theorem closed_v {N : Nat} {p : List Nd} (hf : Fits p) (hN : 1048576 < N) : ∃ b, F11 N p = some b ∧ F37 N p = some b ∧ (b = true → p.length ≤ 40 ∧ ∀ x ∈ p, nodeB x = true) := by
 obtain ⟨b, h1, h2, h3⟩ := planOk_v hf hN
 have hs := hf.1
 have hh : F45 N p = some (p.any fun x => x.2.2.2.2.2.1) := by
  unfold F45
  rw [contFuncN_v (p := fun z0 => F84 N z0) (q := fun x => x.2.2.2.2.2.1) (fun x hx => rfl) (by omega) (by omega), andO_of]
 unfold F11 F37
 rw [h1, h2, slotsOf_v hf hN h2 (fun e => (h3 e).1), hh, andO_of, andO_of]
 cases b with
 | false => exact ⟨false, rfl, rfl, fun h => by cases h⟩
 | true =>
  simp only [cond_true, andO_of]
  refine ⟨_, rfl, ?_, fun _ => h3 rfl⟩
  congr 1
  rw [Bool.eq_iff_iff]
  simp only [Bool.not_eq_true', beq_iff_eq]
  have hm := slotsS_mem p
  constructor
  ·intro hz
   have hz' : (slotsS p (List.range' 0 40) []) = [] := List.length_eq_zero_iff.mp (by omega)
   rw [List.any_eq_false]
   intro x hx hsl
   have hnum := slot_num ((h3 rfl).2 x hx) hsl
   have : x.2.2.2.2.1 ∈ slotsS p (List.range' 0 40) [] := (hm _ _ _).2 (.inr ⟨x.2.2.2.2.1.toNat, by rw [List.mem_range'_1]; omega, by omega, x, hx, hsl, by omega⟩)
   rw [hz'] at this
   cases this
  ·intro hz
   have : slotsS p (List.range' 0 40) [] = [] := by
    rw [List.eq_nil_iff_forall_not_mem]
    intro y hy
    rcases (hm _ _ _).1 hy with h | ⟨x, hx, rfl, nd, hnd, hsl, -⟩
    ·cases h
    ·exact List.any_eq_false.mp hz nd hnd hsl
   rw [this]
   rfl
theorem own_l (N : Nat) (p : List Nd) (hf : Fits p) : ∀ (d k i : Nat), i + d = p.length → d < k → F40_l0 N p k (p.take i) (p.length : Int) (i : Int) = some p := by
 intro d
 have hs := hf.1
 have hlim := lim_nd
 induction d with
 | zero =>
  intro k i h hk
  rw [F40_l0_s _ _ (by omega), F40_l0_b]
  simp only [show ¬ (i : Int) < (p.length : Int) by omega, decide_false, cond_false, F40_j0]
  rw [List.take_of_length_le (by omega)]
 | succ d ih =>
  intro k i h hk
  have hi : i < p.length := by omega
  have hm := hf.2 _ (List.getElem_mem hi)
  rw [F40_l0_s _ _ (by omega), F40_l0_b]
  simp only [show (i : Int) < (p.length : Int) by omega, decide_true, cond_true, gd_true (inR hi), Int.toNat_natCast, getD_at hi, clone_v (show p[i].2.2.2.2.2.2.length ≤ 5864062014805 by omega), andO_of]
  rw [gd_true (show (p.take i).length + [(p[i].1, (p[i].2.1, (p[i].2.2.1, (p[i].2.2.2.1, (p[i].2.2.2.2.1, (p[i].2.2.2.2.2.1, p[i].2.2.2.2.2.2))))))].length ≤ lim ndT by simp; omega)]
  rw [w64 (by omega) (by omega), show ((i : Int) + 1) = ((i + 1 : Nat) : Int) by omega]
  have := ih (k - 1) (i + 1) (by omega) (by omega)
  rw [List.take_succ_eq_append_getElem hi] at this
  exact this
theorem own_v {N : Nat} {p : List Nd} (hf : Fits p) (hN : 1048576 < N) : F40 N p = some p := by
 unfold F40
 have hs := hf.1
 exact own_l N p hf p.length N 0 (by omega) (by omega)
theorem l02Copy_l (N : Nat) (p : List Nd) (hf : Fits p) (hN : 1048576 < N) : ∀ (d k i : Nat), i + d = p.length → d < k → F38_l0 N p k (p.take i) (i : Int) = some p := by
 intro d
 have hs := hf.1
 have hlim := lim_nd
 induction d with
 | zero =>
  intro k i h hk
  rw [F38_l0_s _ _ (by omega), F38_l0_b]
  simp only [show ¬ (i : Int) < (p.length : Int) by omega, decide_false, cond_false, F38_j0]
  rw [List.take_of_length_le (by omega)]
 | succ d ih =>
  intro k i h hk
  have hi : i < p.length := by omega
  have hm := hf.2 _ (List.getElem_mem hi)
  rw [F38_l0_s _ _ (by omega), F38_l0_b]
  simp only [show (i : Int) < (p.length : Int) by omega, decide_true, cond_true, gd_true (inR hi), Int.toNat_natCast, getD_at hi, l01Copy_v (show p[i].2.2.2.2.2.2.length < N by omega) (show p[i].2.2.2.2.2.2.length ≤ 5864062014805 by omega), andO_of, F38_j1]
  have hg : ∀ c : List Int, (p.take i).length + [(p[i].1, (p[i].2.1, (p[i].2.2.1, (p[i].2.2.2.1, (p[i].2.2.2.2.1, (p[i].2.2.2.2.2.1, c))))))].length ≤ lim ndT := by
   intro c; simp; omega
  rw [gd_true (hg _), gd_true (hg _)]
  rw [w64 (by omega) (by omega), show ((i : Int) + 1) = ((i + 1 : Nat) : Int) by omega]
  have := ih (k - 1) (i + 1) (by omega) (by omega)
  rw [List.take_succ_eq_append_getElem hi] at this
  by_cases hc : ((p[i].2.2.2.2.2.2.length : Int)) > 0
  ·rw [decide_eq_true hc, cond_true]
   exact this
  ·rw [decide_eq_false hc, cond_false]
   have he : p[i].2.2.2.2.2.2 = [] := List.length_eq_zero_iff.mp (by omega)
   rw [← he]
   exact this
theorem l02Copy_v {N : Nat} {p : List Nd} (hf : Fits p) (hN : 1048576 < N) : F38 N p = some p := by
 unfold F38
 have hs := hf.1
 exact l02Copy_l N p hf hN p.length N 0 (by omega) (by omega)
def dN : Nd := (0, ByteArray.empty, 0, 0, 0, false, [])
def litB (a : Nd) : Bool := cond (a.1 == 1) (cond (a.2.2.2.1 != 3) true (a.1 == 6)) (a.1 == 6)
def slotN (x : Nd) (k : Int) : Nd := (x.1, x.2.1, x.2.2.1, x.2.2.2.1, k, true, x.2.2.2.2.2.2)
def liftL : Nat → Nat → List Nd → List Int → List Nd × List Int × Bool
 | 0, _, l, v => (l, v, true)
 | d + 1, i, l, v => cond (litB (l.getD i dN)) (liftL d (i + 1) (l.set i (slotN (l.getD i dN) v.length)) (v ++ [(l.getD i dN).2.2.2.2.1])) (liftL d (i + 1) l v)
theorem isLit_v (N : Nat) (a : Nd) : F41 N a = some (litB a) := by
 unfold F41 litB
 cases (a.1 == 1) <;> cases (a.2.2.2.1 != 3) <;> rfl
theorem l07Lit_v (N : Nat) (a : Nd) : F39 N a = some (litB a) := by
 unfold F39 litB
 cases (a.1 == 1) <;> cases (a.2.2.2.1 != 3) <;> rfl
theorem iLift_l (N n : Nat) (hn : n ≤ 1000000) : ∀ (d k i : Nat) (l : List Nd) (v : List Int), l.length = n → i + d = n → d < k → v.length ≤ i → F8_l0 N k l v (n : Int) (i : Int) = some (liftL d i l v) := by
 intro d
 have hlim := lim_i64
 induction d with
 | zero =>
  intro k i l v hl h hk hv
  rw [F8_l0_s _ (by omega), F8_l0_b]
  simp only [show ¬ (i : Int) < (n : Int) by omega, decide_false, cond_false, F8_j0]
  rfl
 | succ d ih =>
  intro k i l v hl h hk hv
  have hi : i < l.length := by omega
  rw [F8_l0_s _ (by omega), F8_l0_b]
  simp only [show (i : Int) < (n : Int) by omega, decide_true, cond_true, gd_true (inR hi), gd_true hi, Int.toNat_natCast, getD_at hi, isLit_v, andO_of, F8_j1, List.length_set, List.set_set]
  rw [liftL, getD_at hi, w64 (x := (i : Int) + 1) (by omega) (by omega), show ((i : Int) + 1) = ((i + 1 : Nat) : Int) by omega]
  cases litB l[i] with
  | false =>
   simp only [cond_false]
   exact ih (k - 1) (i + 1) l v hl (by omega) (by omega) (by omega)
  | true =>
   simp only [cond_true]
   have hi2 : ∀ y, i < (l.set i y).length := fun y => by rw [List.length_set]; exact hi
   simp only [getD_at (hi2 _), List.getElem_set_self, List.length_append, List.length_singleton]
   rw [gd_true (show v.length + 1 ≤ lim (.int .i64) by omega), w64 (x := ((v.length + 1 : Nat) : Int) - 1) (by omega) (by omega), show ((v.length + 1 : Nat) : Int) - 1 = (v.length : Int) by omega]
   exact ih (k - 1) (i + 1) _ _ (by rw [List.length_set]; exact hl) (by omega) (by omega) (by simp; omega)
theorem sLift_l (N n : Nat) (hn : n ≤ 1000000) : ∀ (d k i : Nat) (l : List Nd) (v : List Int), l.length = n → i + d = n → d < k → v.length ≤ i → F7_l0 N k l v (i : Int) = some (liftL d i l v) := by
 intro d
 have hlim := lim_i64
 induction d with
 | zero =>
  intro k i l v hl h hk hv
  rw [F7_l0_s _ (by omega), F7_l0_b]
  simp only [show ¬ (i : Int) < (l.length : Int) by omega, decide_false, cond_false, F7_j0]
  rfl
 | succ d ih =>
  intro k i l v hl h hk hv
  have hi : i < l.length := by omega
  rw [F7_l0_s _ (by omega), F7_l0_b]
  simp only [show (i : Int) < (l.length : Int) by omega, decide_true, cond_true, gd_true (inR hi), gd_true hi, Int.toNat_natCast, getD_at hi, l07Lit_v, andO_of, F7_j1, List.length_set, List.set_set]
  rw [liftL, getD_at hi, w64 (x := (i : Int) + 1) (by omega) (by omega), show ((i : Int) + 1) = ((i + 1 : Nat) : Int) by omega]
  cases litB l[i] with
  | false =>
   simp only [cond_false, Bool.not_false, cond_true]
   exact ih (k - 1) (i + 1) l v hl (by omega) (by omega) (by omega)
  | true =>
   simp only [cond_true, Bool.not_true, cond_false]
   have hi2 : ∀ y, i < (l.set i y).length := fun y => by rw [List.length_set]; exact hi
   simp only [getD_at (hi2 _), List.getElem_set_self, List.length_append, List.length_singleton]
   rw [gd_true (show v.length + 1 ≤ lim (.int .i64) by omega), w64 (x := ((v.length + 1 : Nat) : Int) - 1) (by omega) (by omega), show ((v.length + 1 : Nat) : Int) - 1 = (v.length : Int) by omega]
   exact ih (k - 1) (i + 1) _ _ (by rw [List.length_set]; exact hl) (by omega) (by omega) (by simp; omega)
end Go.Proofs.YtmkhmpcealeidaaGreat.Vc
namespace Go.Proofs.YtmkhmpcealeidaaGreat.Vc
open Go Go.RowKit
set_option linter.unusedVariables false
set_option linter.unusedSimpArgs false
def litBM (a : Nd) : Bool := cond (a.1 == 1) (cond (a.2.2.2.1 != 3) true (a.1 == 6)) (a.1 == 6)
def litsF (out : List Int) (x : Nd) : List Int := cond (litBM x && !x.2.2.2.2.2.1) (out ++ [x.2.2.2.2.1]) out
theorem isLitM_v (N : Nat) (a : Nd) : F41 N a = some (litBM a) := by
 unfold F41 litBM
 cases (a.1 == 1) <;> cases (a.2.2.2.1 != 3) <;> rfl
theorem iLits_l (N : Nat) (p : List Nd) (hs : p.length ≤ 1048576) : ∀ (d k i : Nat) (out : List Int), i + d = p.length → d < k → out.length + d ≤ 3000000 → F14_l0 N p k out (p.length : Int) (i : Int) = some ((p.drop i).foldl litsF out) := by
 intro d
 have hlim := lim_i64
 induction d with
 | zero =>
  intro k i out h hk ho
  rw [F14_l0_s _ _ (by omega), F14_l0_b]
  simp only [show ¬ (i : Int) < (p.length : Int) by omega, decide_false, cond_false, F14_j0]
  rw [List.drop_eq_nil_of_le (by omega)]
  rfl
 | succ d ih =>
  intro k i out h hk ho
  have hi : i < p.length := by omega
  rw [F14_l0_s _ _ (by omega), F14_l0_b]
  simp only [show (i : Int) < (p.length : Int) by omega, decide_true, cond_true, gd_true (inR hi), Int.toNat_natCast, getD_at hi, isLitM_v, andO_of, F14_j1]
  rw [gd_true (show out.length + [p[i].2.2.2.2.1].length ≤ lim (.int .i64) by simp; omega), w64 (by omega) (by omega), show ((i : Int) + 1) = ((i + 1 : Nat) : Int) by omega, ih (k - 1) (i + 1) out (by omega) (by omega) (by omega), ih (k - 1) (i + 1) (out ++ [p[i].2.2.2.2.1]) (by omega) (by omega) (by simp; omega)]
  rw [List.drop_eq_getElem_cons hi, List.foldl_cons]
  have hst : litsF out p[i] = cond (litBM p[i] && !p[i].2.2.2.2.2.1) (out ++ [p[i].2.2.2.2.1]) out := rfl
  rw [hst]
  cases litBM p[i] <;> cases p[i].2.2.2.2.2.1 <;> rfl
end Go.Proofs.YtmkhmpcealeidaaGreat.Vc
namespace Go.Proofs.YtmkhmpcealeidaaGreat.Vc
open Go Go.RowKit
set_option linter.unusedVariables false
set_option linter.unusedSimpArgs false
end Go.Proofs.YtmkhmpcealeidaaGreat.Vc
namespace Go.Proofs.YtmkhmpcealeidaaGreat.Vc
open Go Go.RowKit
set_option linter.unusedVariables false
set_option linter.unusedSimpArgs false
end Go.Proofs.YtmkhmpcealeidaaGreat.Vc
namespace Go.Proofs.YtmkhmpcealeidaaGreat.Vc
open Go Go.RowKit
set_option linter.unusedVariables false
set_option linter.unusedSimpArgs false
def fillN (x : Nd) (v : Int) : Nd := (x.1, x.2.1, x.2.2.1, x.2.2.2.1, v, false, x.2.2.2.2.2.2)
def fillL (vals : List Int) : Nat → Nat → List Nd → Option (List Nd)
 | 0, _, l => some l
 | d + 1, i, l => cond (l.getD i dN).2.2.2.2.2.1 (cond (decide ((l.getD i dN).2.2.2.2.1 ≥ (vals.length : Int))) none (fillL vals d (i + 1) (l.set i (fillN (l.getD i dN) (vals.getD (l.getD i dN).2.2.2.2.1.toNat 0))))) (fillL vals d (i + 1) l)
theorem iFill_l (N n : Nat) (vals : List Int) (hn : n ≤ 1000000) : ∀ (d k i : Nat) (l : List Nd), l.length = n → i + d = n → d < k → (∀ j, i ≤ j → ∀ h : j < l.length, l[j].2.2.2.2.2.1 = true → 0 ≤ l[j].2.2.2.2.1) →
  F12_l0 N vals k l (n : Int) (i : Int) = (match fillL vals d i l with | none => some ([], false) | some o => F12_j0 N o) := by
 intro d
 induction d with
 | zero =>
  intro k i l hl h hk hs
  rw [F12_l0_s _ _ (by omega), F12_l0_b]
  simp only [show ¬ (i : Int) < (n : Int) by omega, decide_false, cond_false, fillL]
 | succ d ih =>
  intro k i l hl h hk hs
  have hi : i < l.length := by omega
  rw [F12_l0_s _ _ (by omega), F12_l0_b]
  simp only [show (i : Int) < (n : Int) by omega, decide_true, cond_true, gd_true (inR hi), gd_true hi, Int.toNat_natCast, getD_at hi, F12_j1, List.length_set]
  rw [fillL, getD_at hi, w64 (x := (i : Int) + 1) (by omega) (by omega), show ((i : Int) + 1) = ((i + 1 : Nat) : Int) by omega]
  cases hsl : l[i].2.2.2.2.2.1 with
  | false =>
   simp only [Bool.not_false, cond_true, cond_false]
   exact ih (k - 1) (i + 1) l hl (by omega) (by omega) (fun j hj => hs j (by omega))
  | true =>
   simp only [Bool.not_true, cond_false, cond_true]
   by_cases hc : l[i].2.2.2.2.1 ≥ (vals.length : Int)
   ·simp only [hc, decide_true, cond_true]
   ·have h0 := hs i (Nat.le_refl _) hi hsl
    simp only [hc, decide_false, cond_false]
    rw [gd_true (by simp only [InR]; omega)]
    refine ih (k - 1) (i + 1) (l.set i (fillN l[i] (vals.getD l[i].2.2.2.2.1.toNat 0))) (by rw [List.length_set]; exact hl) (by omega) (by omega) (fun j hj hjl => ?_)
    rw [List.getElem_set_ne (by omega)]
    exact hs j (by omega) (by simpa using hjl)
end Go.Proofs.YtmkhmpcealeidaaGreat.Vc
namespace Go.Proofs.YtmkhmpcealeidaaGreat.Vc
open Go Go.RowKit
set_option linter.unusedVariables false
set_option linter.unusedSimpArgs false
def numN (x : Nd) (v : Int) : Nd := (x.1, x.2.1, x.2.2.1, x.2.2.2.1, v, x.2.2.2.2.2.1, x.2.2.2.2.2.2)
def seenN (seen : List Int) (v : Int) : List Int := if v ∈ seen then seen else seen ++ [v]
def renL : Nat → Nat → List Nd → List Int → List Nd
 | 0, _, l, _ => l
 | d + 1, i, l, seen => cond (l.getD i dN).2.2.2.2.2.1 (renL d (i + 1) (l.set i (numN (l.getD i dN) (idx (l.getD i dN).2.2.2.2.1 (seenN seen (l.getD i dN).2.2.2.2.1)))) (seenN seen (l.getD i dN).2.2.2.2.1)) (renL d (i + 1) l seen)
theorem seenN_len (seen : List Int) (v : Int) : (seenN seen v).length ≤ seen.length + 1 := by
 unfold seenN
 split <;> simp
theorem idxF_append (x : Int) : ∀ (l : List Int) (i : Nat), x ∉ l → idxF x (l ++ [x]) i = ((i + l.length : Nat) : Int)
 | [], i, _ => by simp [idxF]
 | y :: l, i, h => by
  simp only [List.mem_cons, not_or] at h
  rw [List.cons_append, idxF, if_neg (fun e => h.1 e.symm), idxF_append x l (i + 1) h.2, List.length_cons]
  congr 1
  omega
theorem iRen_l (N n : Nat) (hn : n ≤ 1000000) (hN : 1048576 < N) : ∀ (d k i : Nat) (l : List Nd) (seen : List Int), l.length = n → i + d = n → d < k → seen.length ≤ i →
  F21_l0 N k l seen (n : Int) (i : Int) = some (renL d i l seen, true) := by
 intro d
 have hlim := lim_i64
 induction d with
 | zero =>
  intro k i l seen hl h hk hs
  rw [F21_l0_s _ (by omega), F21_l0_b]
  simp only [show ¬ (i : Int) < (n : Int) by omega, decide_false, cond_false, F21_j0, renL]
 | succ d ih =>
  intro k i l seen hl h hk hs
  have hi : i < l.length := by omega
  rw [F21_l0_s _ (by omega), F21_l0_b]
  simp only [show (i : Int) < (n : Int) by omega, decide_true, cond_true, gd_true (inR hi), gd_true hi, Int.toNat_natCast, getD_at hi, F21_j1, F21_j2]
  rw [renL, getD_at hi, w64 (x := (i : Int) + 1) (by omega) (by omega), show ((i : Int) + 1) = ((i + 1 : Nat) : Int) by omega]
  cases hsl : l[i].2.2.2.2.2.1 with
  | false =>
   simp only [Bool.not_false, cond_true, cond_false]
   exact ih (k - 1) (i + 1) l seen hl (by omega) (by omega) (by omega)
  | true =>
   simp only [Bool.not_true, cond_false, cond_true]
   rw [index_v (by omega) (by omega), andO_of]
   have hsn := seenN_len seen l[i].2.2.2.2.1
   by_cases hm : l[i].2.2.2.2.1 ∈ seen
   ·have h0 : ¬ idx l[i].2.2.2.2.1 seen < 0 := by
     rcases idxF_lt l[i].2.2.2.2.1 seen 0 with h1 | ⟨j, _, h2, _⟩
     ·exact absurd hm (idxF_none.1 h1)
     ·show ¬ idxF _ _ 0 < 0
      omega
    have he : seenN seen l[i].2.2.2.2.1 = seen := by simp [seenN, hm]
    simp only [h0, decide_false, cond_false, he]
    have := ih (k - 1) (i + 1) (l.set i (numN l[i] (idx l[i].2.2.2.2.1 seen))) seen (by rw [List.length_set]; exact hl) (by omega) (by omega) (by omega)
    simp only [numN, hsl] at this ⊢
    exact this
   ·have h1 : idx l[i].2.2.2.2.1 seen = -1 := idxF_none.2 hm
    have he : seenN seen l[i].2.2.2.2.1 = seen ++ [l[i].2.2.2.2.1] := by simp [seenN, hm]
    have hx : idx l[i].2.2.2.2.1 (seen ++ [l[i].2.2.2.2.1]) = (seen.length : Int) := by
     have := idxF_append l[i].2.2.2.2.1 seen 0 hm
     simpa using this
    rw [h1]
    simp only [show (-1 : Int) < 0 by omega, decide_true, cond_true, he, hx]
    rw [gd_true (show seen.length + [l[i].2.2.2.2.1].length ≤ lim (.int .i64) by simp; omega)]
    have := ih (k - 1) (i + 1) (l.set i (numN l[i] (seen.length : Int))) (seen ++ [l[i].2.2.2.2.1]) (by rw [List.length_set]; exact hl) (by omega) (by omega) (by simp; omega)
    simp only [numN, hsl] at this ⊢
    exact this
theorem sRen_no (N : Nat) (p : List Nd) (nx : List Nd → List Int → Int → Option (List Nd × Bool)) (i : Nat) (hi : i < p.length) (seen : List Int) (hs : seen.length ≤ 1000000) (hp : p.length ≤ 1000000) : ∀ (d k q : Nat) (l : List Nd), q + d = seen.length → d < k → p[i].2.2.2.2.1 ∉ seen.drop q →
  F22_l0 N p nx (i : Int) seen k l (q : Int) = nx l seen ((i + 1 : Nat) : Int) := by
 intro d
 induction d with
 | zero =>
  intro k q l h hk hq
  rw [F22_l0_s _ _ _ _ _ (by omega), F22_l0_b]
  simp only [show ¬ (q : Int) < (seen.length : Int) by omega, decide_false, cond_false, F22_j1]
  rw [w64 (by omega) (by omega)]
  rfl
 | succ d ih =>
  intro k q l h hk hq
  have hql : q < seen.length := by omega
  rw [List.drop_eq_getElem_cons hql, List.mem_cons, not_or] at hq
  rw [F22_l0_s _ _ _ _ _ (by omega), F22_l0_b]
  have he : (seen[q] == p[i].2.2.2.2.1) = false := by rw [beq_eq_false_iff_ne]; exact fun e => hq.1 e.symm
  simp only [show (q : Int) < (seen.length : Int) by omega, decide_true, cond_true, gd_true (inR hql), gd_true hql, Int.toNat_natCast, getD_at hql, gd_true (inR hi), getD_at hi, he, cond_false, F22_j2]
  rw [w64 (x := (q : Int) + 1) (by omega) (by omega), show ((q : Int) + 1) = ((q + 1 : Nat) : Int) by omega]
  exact ih (k - 1) (q + 1) l (by omega) (by omega) hq.2
theorem sRen_yes (N : Nat) (p : List Nd) (nx : List Nd → List Int → Int → Option (List Nd × Bool)) (i : Nat) (hi : i < p.length) (seen : List Int) (hs : seen.length ≤ 1000000) (hp : p.length ≤ 1000000) (hnd : seen.Nodup) (l : List Nd) (hl : i < l.length) : ∀ (d k q : Nat), q + d = seen.length → d < k → p[i].2.2.2.2.1 ∈ seen.drop q →
  F22_l0 N p nx (i : Int) seen k l (q : Int) = nx (l.set i (numN l[i] (idxF p[i].2.2.2.2.1 (seen.drop q) q))) seen ((i + 1 : Nat) : Int) := by
 intro d
 induction d with
 | zero =>
  intro k q h hk hq
  rw [List.drop_eq_nil_of_le (by omega)] at hq
  cases hq
 | succ d ih =>
  intro k q h hk hq
  have hql : q < seen.length := by omega
  have hnd2 : (seen.drop q).Nodup := hnd.sublist (List.drop_sublist _ _)
  rw [List.drop_eq_getElem_cons hql] at hq hnd2 ⊢
  rw [F22_l0_s _ _ _ _ _ (by omega), F22_l0_b]
  simp only [show (q : Int) < (seen.length : Int) by omega, decide_true, cond_true, gd_true (inR hql), gd_true hql, Int.toNat_natCast, getD_at hql, gd_true (inR hi), getD_at hi, gd_true (inR hl), gd_true hl, getD_at hl, F22_j2]
  rw [w64 (x := (q : Int) + 1) (by omega) (by omega), show ((q : Int) + 1) = ((q + 1 : Nat) : Int) by omega]
  by_cases he : seen[q] = p[i].2.2.2.2.1
  ·have hb : (seen[q] == p[i].2.2.2.2.1) = true := by rw [beq_iff_eq]; exact he
   rw [hb, cond_true, idxF, if_pos he]
   rw [sRen_no N p nx i hi seen hs hp d (k - 1) (q + 1) _ (by omega) (by omega) (by rw [← he]; exact (List.nodup_cons.1 hnd2).1)]
   rfl
  ·have hb : (seen[q] == p[i].2.2.2.2.1) = false := by rw [beq_eq_false_iff_ne]; exact he
   rw [hb, cond_false, idxF, if_neg he]
   exact ih (k - 1) (q + 1) (by omega) (by omega) ((List.mem_cons.1 hq).resolve_left (fun e => he e.symm))
theorem sRen_l (N : Nat) (p : List Nd) (hp : p.length ≤ 1000000) (hN : 1048576 < N) : ∀ (d k i : Nat) (l : List Nd) (seen : List Int), l.length = p.length → i + d = p.length → d < k → seen.length ≤ i → seen.Nodup → (∀ j, i ≤ j → l[j]? = p[j]?) →
  F22_l1 N p k l seen (i : Int) = some (renL d i l seen, true) := by
 intro d
 have hlim := lim_i64
 induction d with
 | zero =>
  intro k i l seen hl h hk hs hnd hj
  rw [F22_l1_s _ _ (by omega), F22_l1_b]
  simp only [show ¬ (i : Int) < (l.length : Int) by omega, decide_false, cond_false, F22_j0, renL]
 | succ d ih =>
  intro k i l seen hl h hk hs hnd hj
  have hi : i < l.length := by omega
  have hip : i < p.length := by omega
  have hlp : l[i] = p[i] := by
   have := hj i (Nat.le_refl _)
   rw [List.getElem?_eq_getElem hi, List.getElem?_eq_getElem hip] at this
   exact Option.some.inj this
  rw [F22_l1_s _ _ (by omega), F22_l1_b]
  simp only [show (i : Int) < (l.length : Int) by omega, decide_true, cond_true, gd_true (inR hi), gd_true hi, gd_true (inR hip), Int.toNat_natCast, getD_at hi, getD_at hip, F22_j1, F22_j3]
  rw [renL, getD_at hi]
  cases hsl : l[i].2.2.2.2.2.1 with
  | false =>
   simp only [Bool.not_false, cond_true, cond_false]
   rw [w64 (x := (i : Int) + 1) (by omega) (by omega), show ((i : Int) + 1) = ((i + 1 : Nat) : Int) by omega]
   exact ih (k - 1) (i + 1) l seen hl (by omega) (by omega) (by omega) hnd (fun j hj' => hj j (by omega))
  | true =>
   simp only [Bool.not_true, cond_false, cond_true]
   rw [l01Has_v (by omega) (by omega), andO_of, hlp]
   have fin : ∀ seen' : List Int, seen' = seenN seen p[i].2.2.2.2.1 → F22_l0 N p (F22_l1 N p (k - 1)) (i : Int) seen' N l (0 : Int) = some (renL d (i + 1) (l.set i (numN p[i] (idx p[i].2.2.2.2.1 (seenN seen p[i].2.2.2.2.1)))) (seenN seen p[i].2.2.2.2.1), true) := by
    intro seen' he
    have hlen := seenN_len seen p[i].2.2.2.2.1
    have hmem : p[i].2.2.2.2.1 ∈ seenN seen p[i].2.2.2.2.1 := by
     unfold seenN
     split
     ·assumption
     ·simp
    have hnd' : (seenN seen p[i].2.2.2.2.1).Nodup := by
     unfold seenN
     split
     ·exact hnd
     ·rename_i hm
      rw [List.nodup_append]
      exact ⟨hnd, by simp, fun a ha b hb => by simp at hb; subst hb; exact fun e => hm (e ▸ ha)⟩
    subst he
    have := sRen_yes N p (F22_l1 N p (k - 1)) i hip (seenN seen p[i].2.2.2.2.1) (by omega) hp hnd' l hi (seenN seen p[i].2.2.2.2.1).length N 0 (by omega) (by omega) (by simpa using hmem)
    rw [List.drop_zero, hlp] at this
    rw [show (0 : Int) = ((0 : Nat) : Int) from rfl, this]
    refine ih (k - 1) (i + 1) _ _ (by rw [List.length_set]; exact hl) (by omega) (by omega) (by omega) hnd' (fun j hj' => ?_)
    rw [List.getElem?_set_ne (by omega)]
    exact hj j (by omega)
   by_cases hm : p[i].2.2.2.2.1 ∈ seen
   ·simp only [hm, decide_true, Bool.not_true, cond_false]
    exact fin seen (by simp [seenN, hm])
   ·simp only [hm, decide_false, Bool.not_false, cond_true]
    rw [gd_true (show seen.length + [p[i].2.2.2.2.1].length ≤ lim (.int .i64) by simp; omega)]
    exact fin _ (by simp [seenN, hm])
end Go.Proofs.YtmkhmpcealeidaaGreat.Vc
namespace Go.Proofs.YtmkhmpcealeidaaGreat.Vc
open Go Go.RowKit
set_option linter.unusedVariables false
set_option linter.unusedSimpArgs false
theorem incr_ext : ∀ {a b : List Int}, a.Pairwise (· < ·) → b.Pairwise (· < ·) → (∀ y, y ∈ a ↔ y ∈ b) → a = b
 | [], [], _, _, _ => rfl
 | [], y :: b, _, _, h => by have := (h y).2 (by simp); simp at this
 | x :: a, [], _, _, h => by have := (h x).1 (by simp); simp at this
 | x :: a, y :: b, ha, hb, h => by
  rw [List.pairwise_cons] at ha hb
  have e : x = y := by
   rcases List.mem_cons.1 ((h x).1 (by simp)) with h1 | h1
   ·exact h1
   ·rcases List.mem_cons.1 ((h y).2 (by simp)) with h2 | h2
    ·exact h2.symm
    ·have := ha.1 y h2
     have := hb.1 x h1
     omega
  subst e
  congr 1
  refine incr_ext ha.2 hb.2 fun z => ?_
  constructor
  ·intro hz
   have hlt := ha.1 z hz
   rcases List.mem_cons.1 ((h z).1 (by simp [hz])) with h1 | h1
   ·omega
   ·exact h1
  ·intro hz
   have hlt := hb.1 z hz
   rcases List.mem_cons.1 ((h z).2 (by simp [hz])) with h1 | h1
   ·omega
   ·exact h1
theorem compact_upto (d : Array Int) (hd : ∀ i j, i ≤ j → j < d.size → d[i]! ≤ d[j]!) : ∀ m, m ≤ d.size → (Lib.compactUpTo d m).Pairwise (· < ·) ∧ (∀ y, y ∈ Lib.compactUpTo d m ↔ ∃ j, j < m ∧ d[j]! = y) := by
 intro m
 induction m with
 | zero => intro _; simp [Lib.compactUpTo]
 | succ m ih =>
  intro hm
  obtain ⟨h1, h2⟩ := ih (by omega)
  rw [Lib.compactUpTo_succ]
  cases hk : Lib.keeps d m with
  | true =>
   simp only [if_true]
   constructor
   ·rw [List.pairwise_append]
    refine ⟨h1, by simp, fun a ha b hb => ?_⟩
    simp only [List.mem_singleton] at hb
    subst hb
    obtain ⟨j, hj, rfl⟩ := (h2 a).1 ha
    simp only [Lib.keeps, decide_eq_true_eq] at hk
    have hm0 : m ≠ 0 := by omega
    have hne := hk.resolve_left hm0
    have l1 := hd j (m - 1) (by omega) (by omega)
    have l2 := hd (m - 1) m (by omega) (by omega)
    omega
   ·intro y
    simp only [List.mem_append, List.mem_singleton, h2]
    constructor
    ·rintro (⟨j, hj, rfl⟩ | rfl)
     ·exact ⟨j, by omega, rfl⟩
     ·exact ⟨m, by omega, rfl⟩
    ·rintro ⟨j, hj, rfl⟩
     by_cases e : j = m
     ·subst e; exact .inr rfl
     ·exact .inl ⟨j, by omega, rfl⟩
  | false =>
   simp only [Bool.false_eq_true, if_false, List.append_nil]
   refine ⟨h1, fun y => ?_⟩
   rw [h2]
   simp only [Lib.keeps, decide_eq_false_iff_not, not_or] at hk
   have hm0 := hk.1
   have he : d[m]! = d[m - 1]! := Decidable.not_not.1 hk.2
   constructor
   ·rintro ⟨j, hj, rfl⟩; exact ⟨j, by omega, rfl⟩
   ·rintro ⟨j, hj, rfl⟩
    by_cases e : j = m
    ·subst e; exact ⟨j - 1, by omega, he.symm⟩
    ·exact ⟨j, by omega, rfl⟩
theorem compact_sorted {xs : List Int} (h : xs.Pairwise (· ≤ ·)) : (Lib.compact xs).Pairwise (· < ·) ∧ ∀ y, y ∈ Lib.compact xs ↔ y ∈ xs := by
 have hd : ∀ i j, i ≤ j → j < xs.toArray.size → xs.toArray[i]! ≤ xs.toArray[j]! := by
  intro i j hij hj
  simp only [List.size_toArray] at hj
  rw [getElem!_pos xs.toArray i (by simp; omega), getElem!_pos xs.toArray j (by simpa using hj)]
  simp only [List.getElem_toArray]
  by_cases e : i = j
  ·subst e; exact Int.le_refl _
  ·exact List.pairwise_iff_getElem.1 h i j (by omega) hj (by omega)
 obtain ⟨h1, h2⟩ := compact_upto xs.toArray hd xs.length (by simp)
 refine ⟨h1, fun y => (h2 y).trans ?_⟩
 constructor
 ·rintro ⟨j, hj, rfl⟩
  rw [getElem!_pos xs.toArray j (by simpa using hj)]
  simp
 ·intro hy
  obtain ⟨j, hj, rfl⟩ := List.getElem_of_mem hy
  exact ⟨j, hj, by rw [getElem!_pos xs.toArray j (by simpa using hj)]; simp⟩
theorem sort_compact (xs : List Int) : (Lib.compact (xs.mergeSort fun x y => decide (x ≤ y))).Pairwise (· < ·) ∧ ∀ y, y ∈ Lib.compact (xs.mergeSort fun x y => decide (x ≤ y)) ↔ y ∈ xs := by
 have hp : (xs.mergeSort fun x y => decide (x ≤ y)).Pairwise (· ≤ ·) := by
  refine (List.pairwise_mergeSort (le := fun x y => decide (x ≤ y)) (fun a b c h1 h2 => ?_) (fun a b => ?_) xs).imp (fun h => by simpa using h)
  ·simp only [decide_eq_true_eq] at *; omega
  ·simp only [Bool.or_eq_true, decide_eq_true_eq]; omega
 obtain ⟨h1, h2⟩ := compact_sorted hp
 exact ⟨h1, fun y => (h2 y).trans List.mem_mergeSort⟩
theorem foldS_pw (x : Int) : ∀ (p : List Nd) (out : List Int), out.Pairwise (· < ·) → (∀ y ∈ out, y ≤ x) → (p.foldl (stepS x) out).Pairwise (· < ·) ∧ ∀ y ∈ p.foldl (stepS x) out, y ≤ x
 | [], out, h1, h2 => ⟨h1, h2⟩
 | nd :: p, out, h1, h2 => by
  rw [List.foldl_cons]
  have key : (stepS x out nd).Pairwise (· < ·) ∧ ∀ y ∈ stepS x out nd, y ≤ x := by
   unfold stepS
   cases hc : (nd.2.2.2.2.2.1 && (nd.2.2.2.2.1 == x && !decide (x ∈ out))) with
   | false => exact ⟨h1, h2⟩
   | true =>
    simp only [Bool.and_eq_true, Bool.not_eq_true', decide_eq_false_iff_not] at hc
    simp only [cond_true]
    refine ⟨List.pairwise_append.2 ⟨h1, by simp, fun a ha b hb => ?_⟩, fun y hy => ?_⟩
    ·simp only [List.mem_singleton] at hb
     subst hb
     have := h2 a ha
     have : a ≠ b := fun e => hc.2.2 (e ▸ ha)
     omega
    ·rcases List.mem_append.1 hy with hy | hy
     ·exact h2 y hy
     ·simp only [List.mem_singleton] at hy; omega
  exact foldS_pw x p _ key.1 key.2
theorem slotsS_pw (p : List Nd) : ∀ (m j : Nat) (out : List Int), out.Pairwise (· < ·) → (∀ y ∈ out, y < (j : Int)) → (slotsS p (List.range' j m) out).Pairwise (· < ·) := by
 intro m
 induction m with
 | zero => intro j out h1 _; exact h1
 | succ m ih =>
  intro j out h1 h2
  obtain ⟨a1, a2⟩ := foldS_pw (j : Int) p out h1 (fun y hy => by have := h2 y hy; omega)
  exact ih (j + 1) _ a1 (fun y hy => by have := a2 y hy; omega)
def slF (out : List Int) (x : Nd) : List Int := cond x.2.2.2.2.2.1 (out ++ [x.2.2.2.2.1]) out
theorem slF_len : ∀ (p : List Nd) (out : List Int), (p.foldl slF out).length ≤ out.length + p.length
 | [], out => by simp
 | x :: p, out => by
  rw [List.foldl_cons]
  have h1 := slF_len p (slF out x)
  have h2 : (slF out x).length ≤ out.length + 1 := by unfold slF; cases x.2.2.2.2.2.1 <;> simp
  simp only [List.length_cons]
  omega
theorem slF_mem (y : Int) : ∀ (p : List Nd) (out : List Int), y ∈ p.foldl slF out ↔ y ∈ out ∨ ∃ nd ∈ p, nd.2.2.2.2.2.1 = true ∧ nd.2.2.2.2.1 = y
 | [], out => by simp
 | x :: p, out => by
  rw [List.foldl_cons, slF_mem y p]
  unfold slF
  cases hx : x.2.2.2.2.2.1 with
  | false => simp [hx]
  | true =>
   simp only [cond_true, List.mem_append, List.mem_cons, List.not_mem_nil, false_or, or_false, exists_eq_or_imp, hx, true_and, or_assoc]
   constructor
   ·rintro (h | h | h)
    ·exact .inl h
    ·exact .inr (.inl h.symm)
    ·exact .inr (.inr h)
   ·rintro (h | h | h)
    ·exact .inl h
    ·exact .inr (.inl h.symm)
    ·exact .inr (.inr h)
theorem iSlots_l (N : Nat) (p : List Nd) (hs : p.length ≤ 1048576) : ∀ (d k i : Nat) (out : List Int), i + d = p.length → d < k → out.length + d ≤ 3000000 → F13_l0 N p k out (p.length : Int) (i : Int) = F13_j0 N ((p.drop i).foldl slF out) := by
 intro d
 have hlim := lim_i64
 induction d with
 | zero =>
  intro k i out h hk ho
  rw [F13_l0_s _ _ (by omega), F13_l0_b]
  simp only [show ¬ (i : Int) < (p.length : Int) by omega, decide_false, cond_false]
  rw [List.drop_eq_nil_of_le (by omega)]
  rfl
 | succ d ih =>
  intro k i out h hk ho
  have hi : i < p.length := by omega
  rw [F13_l0_s _ _ (by omega), F13_l0_b]
  simp only [show (i : Int) < (p.length : Int) by omega, decide_true, cond_true, gd_true (inR hi), Int.toNat_natCast, getD_at hi, F13_j1]
  rw [gd_true (show out.length + [p[i].2.2.2.2.1].length ≤ lim (.int .i64) by simp; omega), w64 (by omega) (by omega), show ((i : Int) + 1) = ((i + 1 : Nat) : Int) by omega, ih (k - 1) (i + 1) out (by omega) (by omega) (by omega), ih (k - 1) (i + 1) (out ++ [p[i].2.2.2.2.1]) (by omega) (by omega) (by simp; omega)]
  rw [List.drop_eq_getElem_cons hi, List.foldl_cons]
  have hst : slF out p[i] = cond p[i].2.2.2.2.2.1 (out ++ [p[i].2.2.2.2.1]) out := rfl
  rw [hst]
  cases p[i].2.2.2.2.2.1 <;> rfl
theorem slots_v {N : Nat} {p : List Nd} (hf : Fits p) (hN : 1048576 < N) : ∃ r : List Int, F13 N p = some r ∧ F77 N p = some r ∧ r.length ≤ 1048576 := by
 obtain ⟨b, h1, h2, h3⟩ := planOk_v hf hN
 have hs := hf.1
 rw [slotsOf_v hf hN h2 (fun e => (h3 e).1)]
 unfold F13
 rw [h1, andO_of]
 cases b with
 | false => exact ⟨[], rfl, rfl, by simp⟩
 | true =>
  obtain ⟨h40, hok⟩ := h3 rfl
  simp only [Bool.not_true, cond_false, cond_true]
  have hl := iSlots_l N p hs p.length N 0 [] (by omega) (by omega) (by simp; omega)
  rw [show (((0 : Nat)) : Int) = 0 from rfl, List.drop_zero] at hl
  have hlen := slF_len p []
  simp only [List.length_nil, Nat.zero_add] at hlen
  have hml : ((p.foldl slF []).mergeSort fun x y => decide (x ≤ y)).length = (p.foldl slF []).length := List.length_mergeSort _
  have hcl := compact_le ((p.foldl slF []).mergeSort fun x y => decide (x ≤ y))
  refine ⟨Lib.compact ((p.foldl slF []).mergeSort fun x y => decide (x ≤ y)), ?_, ?_, by omega⟩
  ·rw [hl]
   unfold F13_j0
   simp only [F46, F47]
   rw [gd_true (by omega), andO_of, gd_true (by omega), andO_of]
  ·congr 1
   obtain ⟨c1, c2⟩ := sort_compact (p.foldl slF [])
   refine incr_ext (slotsS_pw p 40 0 [] .nil (by simp)) c1 fun y => ?_
   rw [c2, slF_mem, slotsS_mem]
   constructor
   ·rintro (h | ⟨x, hx, rfl, nd, hm, hs', hn⟩)
    ·simp at h
    ·exact .inr ⟨nd, hm, hs', hn⟩
   ·rintro (h | ⟨nd, hm, hs', hn⟩)
    ·simp at h
    ·have := slot_num (hok nd hm) hs'
     exact .inr ⟨y.toNat, by rw [List.mem_range'_1]; omega, by omega, nd, hm, hs', by omega⟩
end Go.Proofs.YtmkhmpcealeidaaGreat.Vc
namespace Go.Proofs.YtmkhmpcealeidaaGreat.Vc
open Go Go.RowKit
set_option linter.unusedVariables false
set_option linter.unusedSimpArgs false
theorem bytes_l (N : Nat) (b : List Int) (hs : b.length ≤ 1000000) : ∀ (d k i : Nat) (out : List Int), i + d = b.length → d < k → out.length + d ≤ 3000000 →
  F92_l0 N b k out (i : Int) = some (out ++ b.drop i) := by
 intro d
 have hlim := lim_u8
 induction d with
 | zero =>
  intro k i out h hk ho
  rw [F92_l0_s _ _ (by omega), F92_l0_b]
  simp only [show ¬ (i : Int) < (b.length : Int) by omega, decide_false, cond_false, F92_j0]
  rw [List.drop_eq_nil_of_le (by omega), List.append_nil]
 | succ d ih =>
  intro k i out h hk ho
  have hi : i < b.length := by omega
  rw [F92_l0_s _ _ (by omega), F92_l0_b]
  simp only [show (i : Int) < (b.length : Int) by omega, decide_true, cond_true, gd_true (inR hi), Int.toNat_natCast, getD_at hi]
  rw [gd_true (show out.length + [b[i]].length ≤ lim (.int .u8) by simp; omega), w64 (by omega) (by omega), show ((i : Int) + 1) = ((i + 1 : Nat) : Int) by omega, ih (k - 1) (i + 1) (out ++ [b[i]]) (by omega) (by omega) (by simp; omega), List.drop_eq_getElem_cons hi]
  simp only [List.append_assoc, List.cons_append, List.nil_append]
theorem copyB_l (N : Nat) (b : List Int) (hs : b.length ≤ 1000000) : ∀ (d k i : Nat), i + d = b.length → d < k → F154_l0 N b k (b.take i) (i : Int) = some b := by
 intro d
 have hlim := lim_u8
 induction d with
 | zero =>
  intro k i h hk
  rw [F154_l0_s _ _ (by omega), F154_l0_b]
  simp only [show ¬ (i : Int) < (b.length : Int) by omega, decide_false, cond_false, F154_j0]
  rw [List.take_of_length_le (by omega)]
 | succ d ih =>
  intro k i h hk
  have hi : i < b.length := by omega
  rw [F154_l0_s _ _ (by omega), F154_l0_b]
  simp only [show (i : Int) < (b.length : Int) by omega, decide_true, cond_true, gd_true (inR hi), Int.toNat_natCast, getD_at hi]
  rw [gd_true (show (b.take i).length + [b[i]].length ≤ lim (.int .u8) by simp; omega), w64 (by omega) (by omega), show ((i : Int) + 1) = ((i + 1 : Nat) : Int) by omega, ← List.take_succ_eq_append_getElem hi]
  exact ih (k - 1) (i + 1) (by omega) (by omega)
theorem join_v {N : Nat} {a b : List Int} (hN : 1048576 < N) (ha : a.length ≤ 1000000) (hb : b.length ≤ 1000000) : F92 N a b = some (a ++ b) := by
 have h1 := copyB_l N a ha a.length N 0 (by omega) (by omega)
 have h2 := bytes_l N b hb b.length N 0 a (by omega) (by omega) (by omega)
 rw [show (((0 : Nat)) : Int) = 0 from rfl] at h1 h2
 unfold F92 F154
 rw [List.take_zero] at h1
 rw [h1, andO_of, h2, List.drop_zero]
theorem num_l (N : Nat) : ∀ (d k1 k2 : Nat) (n : Int) (out : List Int), 0 ≤ n → n < 128 ^ (d + 1) → d ≤ 5 → d < k1 → d < k2 → out.length + d ≤ 1000 →
  ∃ l : List Int, F88_l0 N k1 n out = some (out ++ l) ∧ F91_l0 N k2 out n = some (out ++ l) ∧ l.length ≤ d + 1 := by
 intro d
 have hlim := lim_u8
 induction d with
 | zero =>
  intro k1 k2 n out h0 h1 hd hk1 hk2 ho
  have h1 : n < 128 := by simpa using h1
  rw [F88_l0_s _ (by omega), F88_l0_b, F91_l0_s _ (by omega), F91_l0_b]
  simp only [show ¬ n ≥ 128 by omega, decide_false, cond_false, F88_j0, F91_j0]
  rw [gd_true (show out.length + [IntKind.u8.wrap n].length ≤ lim (.int .u8) by simp; omega)]
  exact ⟨_, rfl, rfl, by simp⟩
 | succ d ih =>
  intro k1 k2 n out h0 h1 hd hk1 hk2 ho
  rw [F88_l0_s _ (by omega), F88_l0_b, F91_l0_s _ (by omega), F91_l0_b]
  have hp : (128 : Int) ^ (d + 1) ≤ 128 ^ 6 := by
   have : (128 : Nat) ^ (d + 1) ≤ 128 ^ 6 := Nat.pow_le_pow_right (by omega) (by omega)
   exact_mod_cast this
  have hp2 : (128 : Int) ^ (d + 1 + 1) = 128 ^ (d + 1) * 128 := Int.pow_succ 128 (d + 1)
  by_cases hb : n ≥ 128
  ·simp only [hb, decide_true, cond_true]
   rw [Int.add_comm (Int.tmod n 128) 128]
   simp only [gd_true (show out.length + [IntKind.u8.wrap (IntKind.i64.wrap (128 + Int.tmod n 128))].length ≤ lim (.int .u8) by simp; omega)]
   have hq : Int.tdiv n 128 = n / 128 := Int.tdiv_eq_ediv_of_nonneg h0
   have hq1 : n / 128 < 128 ^ (d + 1) := by
    apply Int.ediv_lt_of_lt_mul (by omega)
    rw [← hp2]; exact h1
   have hq0 : 0 ≤ n / 128 := Int.ediv_nonneg h0 (by omega)
   rw [hq, w64 (x := n / 128) (by omega) (by omega)]
   obtain ⟨l, e1, e2, e3⟩ := ih (k1 - 1) (k2 - 1) (n / 128) (out ++ [IntKind.u8.wrap (IntKind.i64.wrap (128 + Int.tmod n 128))]) hq0 hq1 (by omega) (by omega) (by omega) (by simp; omega)
   exact ⟨IntKind.u8.wrap (IntKind.i64.wrap (128 + Int.tmod n 128)) :: l, by rw [e1]; simp, by rw [e2]; simp, by simp; omega⟩
  ·simp only [show ¬ n ≥ 128 from hb, decide_false, cond_false, F88_j0, F91_j0]
   rw [gd_true (show out.length + [IntKind.u8.wrap n].length ≤ lim (.int .u8) by simp; omega)]
   exact ⟨_, rfl, rfl, by simp⟩
theorem num_v {N : Nat} (hN : 1048576 < N) (x : Int) : ∃ l : List Int, F88 N x = some l ∧ F91 N x = some l ∧ l.length ≤ 4 := by
 unfold F88 F91
 rw [isNum_v, l01Number_v, andO_of, andO_of]
 by_cases hx : Num x
 ·rw [decide_eq_true hx]
  simp only [Bool.not_true, cond_false, F88_j1, F91_j1]
  obtain ⟨h1, h2⟩ := hx
  by_cases hn : x < 0
  ·simp only [hn, decide_true, cond_true]
   rw [w64 (x := -2 * x) (by omega) (by omega), w64 (x := -2 * x - 1) (by omega) (by omega)]
   obtain ⟨l, e1, e2, e3⟩ := num_l N 3 N N (-2 * x - 1) [] (by omega) (by omega) (by omega) (by omega) (by omega) (by simp)
   exact ⟨l, by simpa using e1, by simpa using e2, by omega⟩
  ·simp only [hn, decide_false, cond_false]
   rw [w64 (x := 2 * x) (by omega) (by omega)]
   obtain ⟨l, e1, e2, e3⟩ := num_l N 3 N N (2 * x) [] (by omega) (by omega) (by omega) (by omega) (by omega) (by simp)
   exact ⟨l, by simpa using e1, by simpa using e2, by omega⟩
 ·rw [decide_eq_false hx]
  exact ⟨[], rfl, rfl, by simp⟩
def numB (N : Nat) (x : Int) : List Int := match F88 N x with | some l => l | none => []
theorem numB_v {N : Nat} (hN : 1048576 < N) (x : Int) : F88 N x = some (numB N x) ∧ F91 N x = some (numB N x) ∧ (numB N x).length ≤ 4 := by
 obtain ⟨l, h1, h2, h3⟩ := num_v hN x
 have : numB N x = l := by simp [numB, h1]
 rw [this]
 exact ⟨h1, h2, h3⟩
def allB (N : Nat) (l : List Int) : List Int := l.flatMap (numB N)
theorem allB_len {N : Nat} (hN : 1048576 < N) : ∀ l : List Int, (allB N l).length ≤ 4 * l.length
 | [] => by simp [allB]
 | x :: l => by
  have h1 := allB_len hN l
  have h2 := (numB_v hN x).2.2
  simp only [allB, List.flatMap_cons, List.length_append, List.length_cons] at h1 ⊢
  omega
theorem putAll_l (N : Nat) (hN : 1048576 < N) (a : List Int) (hs : a.length ≤ 1000) : ∀ (d k i : Nat) (out : List Int), i + d = a.length → d < k → out.length ≤ 4 * i →
  F148_l0 N a k out (a.length : Int) (i : Int) = some (out ++ allB N (a.drop i)) := by
 intro d
 have hlim := lim_u8
 induction d with
 | zero =>
  intro k i out h hk ho
  rw [F148_l0_s _ _ (by omega), F148_l0_b]
  simp only [show ¬ (i : Int) < (a.length : Int) by omega, decide_false, cond_false, F148_j0]
  rw [List.drop_eq_nil_of_le (by omega)]
  simp [allB]
 | succ d ih =>
  intro k i out h hk ho
  have hi : i < a.length := by omega
  obtain ⟨h1, h2, h3⟩ := numB_v hN a[i]
  rw [F148_l0_s _ _ (by omega), F148_l0_b]
  simp only [show (i : Int) < (a.length : Int) by omega, decide_true, cond_true, gd_true (inR hi), Int.toNat_natCast, getD_at hi, h1, andO_of]
  rw [gd_true (show out.length + (numB N a[i]).length ≤ lim (.int .u8) by omega), w64 (by omega) (by omega), show ((i : Int) + 1) = ((i + 1 : Nat) : Int) by omega, ih (k - 1) (i + 1) _ (by omega) (by omega) (by simp; omega), List.drop_eq_getElem_cons hi]
  simp only [allB, List.flatMap_cons, List.append_assoc]
theorem putAll_v {N : Nat} {a : List Int} (hN : 1048576 < N) (hs : a.length ≤ 1000) : F148 N a = some (allB N a) := by
 have := putAll_l N hN a hs a.length N 0 [] (by omega) (by omega) (by simp)
 rw [show (((0 : Nat)) : Int) = 0 from rfl, List.drop_zero, List.nil_append] at this
 exact this
theorem l05Put_l (N : Nat) (hN : 1048576 < N) (a b : List Int) (hs : a.length ≤ 1000) (hb : b.length ≤ 1000) : ∀ (d k i : Nat) (out : List Int), i + d = a.length → d < k → out.length ≤ 1000 + 4 * i →
  F156_l0 N a k out (i : Int) = some (out ++ allB N (a.drop i)) := by
 intro d
 induction d with
 | zero =>
  intro k i out h hk ho
  rw [F156_l0_s _ _ (by omega), F156_l0_b]
  simp only [show ¬ (i : Int) < (a.length : Int) by omega, decide_false, cond_false, F156_j0]
  rw [List.drop_eq_nil_of_le (by omega)]
  simp [allB]
 | succ d ih =>
  intro k i out h hk ho
  have hi : i < a.length := by omega
  obtain ⟨h1, h2, h3⟩ := numB_v hN a[i]
  rw [F156_l0_s _ _ (by omega), F156_l0_b]
  simp only [show (i : Int) < (a.length : Int) by omega, decide_true, cond_true, gd_true (inR hi), Int.toNat_natCast, getD_at hi, h2, andO_of, join_v hN (show out.length ≤ 1000000 by omega) (show (numB N a[i]).length ≤ 1000000 by omega)]
  rw [w64 (by omega) (by omega), show ((i : Int) + 1) = ((i + 1 : Nat) : Int) by omega, ih (k - 1) (i + 1) _ (by omega) (by omega) (by simp; omega), List.drop_eq_getElem_cons hi]
  simp only [allB, List.flatMap_cons, List.append_assoc]
theorem l05Put_v {N : Nat} {a b : List Int} (hN : 1048576 < N) (hs : a.length ≤ 1000) (hb : b.length ≤ 1000) : F156 N b a = some (b ++ allB N a) := by
 have := l05Put_l N hN a b hs hb a.length N 0 b (by omega) (by omega) (by omega)
 rw [show (((0 : Nat)) : Int) = 0 from rfl, List.drop_zero] at this
 exact this
theorem iNums_l (N : Nat) (hN : 1048576 < N) (a : List Int) (hs : a.length ≤ 300) (ha : ∀ x ∈ a, Num x) : ∀ (d k i : Nat) (out : List Int), i + d = a.length → d < k → out.length ≤ 4 * i + 4 →
  F150_l0 N a k out (a.length : Int) (i : Int) = some (out ++ allB N (a.drop i)) := by
 intro d
 have hlim := lim_u8
 induction d with
 | zero =>
  intro k i out h hk ho
  rw [F150_l0_s _ _ (by omega), F150_l0_b]
  simp only [show ¬ (i : Int) < (a.length : Int) by omega, decide_false, cond_false, F150_j0]
  rw [List.drop_eq_nil_of_le (by omega)]
  simp [allB]
 | succ d ih =>
  intro k i out h hk ho
  have hi : i < a.length := by omega
  obtain ⟨h1, h2, h3⟩ := numB_v hN a[i]
  rw [F150_l0_s _ _ (by omega), F150_l0_b]
  simp only [show (i : Int) < (a.length : Int) by omega, decide_true, cond_true, gd_true (inR hi), Int.toNat_natCast, getD_at hi, isNum_v, decide_eq_true (ha _ (List.getElem_mem hi)), Bool.not_true, cond_false, h1, andO_of]
  rw [gd_true (show out.length + (numB N a[i]).length ≤ lim (.int .u8) by omega), w64 (by omega) (by omega), show ((i : Int) + 1) = ((i + 1 : Nat) : Int) by omega, ih (k - 1) (i + 1) _ (by omega) (by omega) (by simp; omega), List.drop_eq_getElem_cons hi]
  simp only [allB, List.flatMap_cons, List.append_assoc]
theorem sNums_l (N : Nat) (hN : 1048576 < N) (a : List Int) (hs : a.length ≤ 300) (ha : ∀ x ∈ a, Num x) : ∀ (d k i : Nat) (out : List Int), i + d = a.length → d < k → out.length ≤ 4 * i + 4 →
  F158_l0 N a k out (i : Int) = some (out ++ allB N (a.drop i)) := by
 intro d
 induction d with
 | zero =>
  intro k i out h hk ho
  rw [F158_l0_s _ _ (by omega), F158_l0_b]
  simp only [show ¬ (i : Int) < (a.length : Int) by omega, decide_false, cond_false, F158_j0]
  rw [List.drop_eq_nil_of_le (by omega)]
  simp [allB]
 | succ d ih =>
  intro k i out h hk ho
  have hi : i < a.length := by omega
  obtain ⟨h1, h2, h3⟩ := numB_v hN a[i]
  rw [F158_l0_s _ _ (by omega), F158_l0_b]
  simp only [show (i : Int) < (a.length : Int) by omega, decide_true, cond_true, gd_true (inR hi), Int.toNat_natCast, getD_at hi, l01Number_v, decide_eq_true (ha _ (List.getElem_mem hi)), Bool.not_true, cond_false, h2, andO_of, join_v hN (show out.length ≤ 1000000 by omega) (show (numB N a[i]).length ≤ 1000000 by omega)]
  rw [w64 (by omega) (by omega), show ((i : Int) + 1) = ((i + 1 : Nat) : Int) by omega, ih (k - 1) (i + 1) _ (by omega) (by omega) (by simp; omega), List.drop_eq_getElem_cons hi]
  simp only [allB, List.flatMap_cons, List.append_assoc]
theorem nums_v {N : Nat} {a : List Int} (hN : 1048576 < N) (hs : a.length ≤ 300) (ha : ∀ x ∈ a, Num x) : F150 N a = some (numB N a.length ++ allB N a) ∧ F158 N a = some (numB N a.length ++ allB N a) := by
 obtain ⟨h1, h2, h3⟩ := numB_v hN (a.length : Int)
 have e1 := iNums_l N hN a hs ha a.length N 0 (numB N a.length) (by omega) (by omega) (by omega)
 have e2 := sNums_l N hN a hs ha a.length N 0 (numB N a.length) (by omega) (by omega) (by omega)
 rw [show (((0 : Nat)) : Int) = 0 from rfl, List.drop_zero] at e1 e2
 unfold F150 F158
 rw [decide_eq_false (show ¬ (a.length : Int) > 300 by omega), cond_false, h1, andO_of, e1, cond_false, h2, andO_of, e2]
 exact ⟨rfl, rfl⟩
theorem word_size {w : ByteArray} (h : wordB w = true) : w.size ≤ 12 := by
 simp only [wordB, Bool.and_eq_true, decide_eq_true_eq] at h
 omega
theorem putWord_v {N : Nat} {w : ByteArray} (hN : 1048576 < N) (hw : w.size ≤ 1048576) : ∃ l : List Int, F147 N w = some l ∧ F155 N w = some l ∧ l.length ≤ 16 := by
 have hlim := lim_u8
 unfold F147 F155
 rw [iWord_v (by omega) (by omega), sWord_v (by omega) (by omega), andO_of, andO_of]
 cases hb : wordB w with
 | false => exact ⟨[], rfl, rfl, by simp⟩
 | true =>
  have h12 := word_size hb
  obtain ⟨h1, h2, h3⟩ := numB_v hN (w.size : Int)
  have hl : (bytesOf w).length = w.size := by simp [bytesOf]
  simp only [Bool.not_true, cond_false, h1, h2, andO_of, join_v hN (show (numB N w.size).length ≤ 1000000 by omega) (show (bytesOf w).length ≤ 1000000 by omega)]
  rw [gd_true (show (numB N w.size).length + w.size ≤ lim (.int .u8) by omega)]
  exact ⟨_, rfl, rfl, by rw [List.length_append]; omega⟩
theorem putNode_v {N : Nat} {a : Nd} (hN : 1048576 < N) (hw : a.2.1.size ≤ 1048576) (hc : a.2.2.2.2.2.2.length ≤ 1048576) : ∃ l : List Int, F89 N a = some l ∧ F93 N a = some l ∧ l.length ≤ 40 := by
 have hlim := lim_u8
 unfold F89 F93
 rw [iNodeOk_v (by omega) (by omega) (by omega) (by omega) (by omega), sNodeOk_v (by omega) (by omega) (by omega) (by omega), andO_of, andO_of]
 cases hb : nodeB a with
 | false => exact ⟨[], rfl, rfl, by simp⟩
 | true =>
  obtain ⟨h1, h2, h3⟩ := numB_v hN a.1
  obtain ⟨w, w1, w2, w3⟩ := putWord_v (w := a.2.1) hN hw
  simp only [Bool.not_true, cond_false, h1, h2, andO_of, w1, w2, join_v hN (show (numB N a.1).length ≤ 1000000 by omega) (show w.length ≤ 1000000 by omega)]
  have hfl : ∀ b : Bool, F149 N b = some (cond b 1 0) ∧ F157 N b = some (cond b 1 0) := fun b => by cases b <;> exact ⟨rfl, rfl⟩
  have hall : ∀ l : List Int, l.length ≤ 4 → F148 N l = some (allB N l) ∧ F156 N (numB N a.1) l = some (numB N a.1 ++ allB N l) ∧ (allB N l).length ≤ 16 := fun l hl => ⟨putAll_v hN (by omega), l05Put_v hN (by omega) (by omega), by have := allB_len hN l; omega⟩
  simp only [(hfl _).1, (hfl _).2, andO_of]
  by_cases k0 : a.1 = 0
  ·simp only [show (a.1 == 0) = true from by rw [beq_iff_eq]; exact k0, cond_true]
   rw [gd_true (by omega)]
   exact ⟨_, rfl, rfl, by rw [List.length_append]; omega⟩
  ·simp only [show (a.1 == 0) = false from by rw [beq_eq_false_iff_ne]; exact k0, cond_false]
   by_cases k1 : a.1 = 1
   ·obtain ⟨q1, q2, q3⟩ := hall [a.2.2.1, a.2.2.2.1, cond a.2.2.2.2.2.1 1 0, a.2.2.2.2.1] (by simp)
    simp only [show (a.1 == 1) = true from by rw [beq_iff_eq]; exact k1, cond_true, q1, q2, andO_of]
    rw [gd_true (by omega)]
    exact ⟨_, rfl, rfl, by rw [List.length_append]; omega⟩
   ·simp only [show (a.1 == 1) = false from by rw [beq_eq_false_iff_ne]; exact k1, cond_false]
    by_cases k2 : a.1 = 2
    ·obtain ⟨c1, c2, c3⟩ : 1 ≤ a.2.2.2.2.2.2.length ∧ a.2.2.2.2.2.2.length ≤ 6 ∧ ∀ c ∈ a.2.2.2.2.2.2, 0 ≤ c ∧ c ≤ 63 := by
      obtain ⟨k, nm, col, op, num, sl, cols⟩ := a
      simp only at k2
      subst k2
      simp only [nodeB] at hb
      simp at hb
      obtain ⟨⟨⟨⟨⟨⟨e1, e2⟩, e3⟩, e4⟩, e5⟩, e6⟩, e7⟩ := hb
      exact ⟨by have := e2.1; simp only; omega, by have := e2.2; simp only; omega, fun c hc => e3 c hc⟩
     obtain ⟨n1, n2⟩ := nums_v (a := a.2.2.2.2.2.2) hN (by omega) (fun x hx => by have := c3 x hx; exact ⟨by omega, by omega⟩)
     have n3 := allB_len hN a.2.2.2.2.2.2
     have n4 := (numB_v hN (a.2.2.2.2.2.2.length : Int)).2.2
     have n5 : (numB N a.2.2.2.2.2.2.length ++ allB N a.2.2.2.2.2.2).length ≤ 30 := by rw [List.length_append]; omega
     simp only [show (a.1 == 2) = true from by rw [beq_iff_eq]; exact k2, cond_true, n1, n2, andO_of, join_v hN (show (numB N a.1).length ≤ 1000000 by omega) (show (numB N a.2.2.2.2.2.2.length ++ allB N a.2.2.2.2.2.2).length ≤ 1000000 by omega)]
     rw [gd_true (by omega)]
     exact ⟨_, rfl, rfl, by rw [List.length_append]; omega⟩
    ·simp only [show (a.1 == 2) = false from by rw [beq_eq_false_iff_ne]; exact k2, cond_false]
     by_cases k3 : a.1 = 3
     ·obtain ⟨q1, q2, q3⟩ := hall [a.2.2.1, a.2.2.2.2.1] (by simp)
      simp only [show (a.1 == 3) = true from by rw [beq_iff_eq]; exact k3, cond_true, q1, q2, andO_of]
      rw [gd_true (by omega)]
      exact ⟨_, rfl, rfl, by rw [List.length_append]; omega⟩
     ·simp only [show (a.1 == 3) = false from by rw [beq_eq_false_iff_ne]; exact k3, cond_false]
      by_cases k5 : a.1 = 5
      ·obtain ⟨q1, q2, q3⟩ := hall [a.2.2.1] (by simp)
       simp only [show (a.1 == 5) = true from by rw [beq_iff_eq]; exact k5, cond_true, q1, q2, andO_of]
       rw [gd_true (by omega)]
       exact ⟨_, rfl, rfl, by rw [List.length_append]; omega⟩
      ·simp only [show (a.1 == 5) = false from by rw [beq_eq_false_iff_ne]; exact k5, cond_false]
       by_cases k6 : a.1 = 6
       ·obtain ⟨q1, q2, q3⟩ := hall [cond a.2.2.2.2.2.1 1 0, a.2.2.2.2.1] (by simp)
        simp only [show (a.1 == 6) = true from by rw [beq_iff_eq]; exact k6, cond_true, q1, q2, andO_of]
        rw [gd_true (by omega)]
        exact ⟨_, rfl, rfl, by rw [List.length_append]; omega⟩
       ·simp only [show (a.1 == 6) = false from by rw [beq_eq_false_iff_ne]; exact k6, cond_false]
        exact ⟨_, rfl, rfl, by omega⟩
theorem check_l (N : Nat) (b : List Int) (hs : b.length ≤ 1000000) : ∀ (d k1 k2 i : Nat) (x : Int), i + d = b.length → d < k1 → d < k2 → ∃ r : Int, F152_l0 N b k1 x (b.length : Int) (i : Int) = some r ∧ F159_l0 N b k2 x (i : Int) = some r := by
 intro d
 induction d with
 | zero =>
  intro k1 k2 i x h hk1 hk2
  rw [F152_l0_s _ _ (by omega), F152_l0_b, F159_l0_s _ _ (by omega), F159_l0_b]
  simp only [show ¬ (i : Int) < (b.length : Int) by omega, decide_false, cond_false, F152_j0, F159_j0]
  exact ⟨x, rfl, rfl⟩
 | succ d ih =>
  intro k1 k2 i x h hk1 hk2
  have hi : i < b.length := by omega
  rw [F152_l0_s _ _ (by omega), F152_l0_b, F159_l0_s _ _ (by omega), F159_l0_b]
  simp only [show (i : Int) < (b.length : Int) by omega, decide_true, cond_true, gd_true (inR hi)]
  rw [w64 (x := (i : Int) + 1) (by omega) (by omega), show ((i : Int) + 1) = ((i + 1 : Nat) : Int) by omega]
  exact ih (k1 - 1) (k2 - 1) (i + 1) _ (by omega) (by omega) (by omega)
theorem check_v {N : Nat} {b : List Int} (hN : 1048576 < N) (hs : b.length ≤ 1000000) : ∃ r : Int, F152 N b = some r ∧ F159 N b = some r :=
 check_l N b hs b.length N N 0 5 (by omega) (by omega) (by omega)
theorem catB_l (N : Nat) (ls : List (List Int)) (hl : ls.length ≤ 100) (hs : ∀ l ∈ ls, l.length ≤ 10000) : ∀ (d k i : Nat) (out : List Int), i + d = ls.length → d < k → out.length ≤ i * 10000 →
  F151_l0 N ls k out (ls.length : Int) (i : Int) = some (out ++ (ls.drop i).flatten) := by
 intro d
 have hlim := lim_u8
 induction d with
 | zero =>
  intro k i out h hk ho
  rw [F151_l0_s _ _ (by omega), F151_l0_b]
  simp only [show ¬ (i : Int) < (ls.length : Int) by omega, decide_false, cond_false, F151_j0]
  rw [List.drop_eq_nil_of_le (by omega)]
  simp
 | succ d ih =>
  intro k i out h hk ho
  have hi : i < ls.length := by omega
  have hm := hs _ (List.getElem_mem hi)
  rw [F151_l0_s _ _ (by omega), F151_l0_b]
  simp only [show (i : Int) < (ls.length : Int) by omega, decide_true, cond_true, gd_true (inR hi), Int.toNat_natCast, getD_at hi]
  rw [gd_true (show out.length + ls[i].length ≤ lim (.int .u8) by omega), w64 (by omega) (by omega), show ((i : Int) + 1) = ((i + 1 : Nat) : Int) by omega, ih (k - 1) (i + 1) (out ++ ls[i]) (by omega) (by omega) (by simp; omega), List.drop_eq_getElem_cons hi]
  simp only [List.flatten_cons, List.append_assoc]
theorem catB_n (N : Nat) (ls : List (List Int)) (hl : ls.length ≤ 100) (hs : ∀ l ∈ ls, l.length ≤ 10000) (z : List Int) (hz : ∀ n : Int, 0 ≤ n → n ≤ 1000000 → F151_j1 N ls n = some z) : ∀ (d k i : Nat) (n : Int), i + d = ls.length → d < k → 0 ≤ n → n ≤ i * 10000 →
  F151_l1 N ls k n (ls.length : Int) (i : Int) = some z := by
 intro d
 induction d with
 | zero =>
  intro k i n h hk h0 hn
  rw [F151_l1_s _ _ (by omega), F151_l1_b]
  simp only [show ¬ (i : Int) < (ls.length : Int) by omega, decide_false, cond_false]
  exact hz n h0 (by omega)
 | succ d ih =>
  intro k i n h hk h0 hn
  have hi : i < ls.length := by omega
  have hm := hs _ (List.getElem_mem hi)
  rw [F151_l1_s _ _ (by omega), F151_l1_b]
  simp only [show (i : Int) < (ls.length : Int) by omega, decide_true, cond_true, gd_true (inR hi), Int.toNat_natCast, getD_at hi]
  rw [w64 (x := n + (ls[i].length : Int)) (by omega) (by omega), decide_eq_false (show ¬ n + (ls[i].length : Int) < 0 by omega), cond_false, w64 (by omega) (by omega), show ((i : Int) + 1) = ((i + 1 : Nat) : Int) by omega]
  exact ih (k - 1) (i + 1) _ (by omega) (by omega) (by omega) (by omega)
theorem catB_v {N : Nat} {ls : List (List Int)} (hN : 1048576 < N) (hl : ls.length ≤ 100) (hs : ∀ l ∈ ls, l.length ≤ 10000) : F151 N ls = some ls.flatten := by
 have hlim := lim_u8
 unfold F151
 refine catB_n N ls hl hs _ (fun n h0 h1 => ?_) ls.length N 0 0 (by omega) (by omega) (by omega) (by omega)
 unfold F151_j1 F187
 have hd := catB_l N ls hl hs ls.length N 0 [] (by omega) (by omega) (by simp)
 rw [show (((0 : Nat)) : Int) = 0 from rfl, List.drop_zero, List.nil_append] at hd
 rw [decide_eq_false (show ¬ n < 0 by omega), cond_false, w64 (x := (0 : Int) - 0) (by omega) (by omega), show (0 : Int) - 0 = 0 from rfl, w64 (x := n - 0) (by omega) (by omega), show n - 0 = n by omega]
 by_cases h : n > 0
 ·rw [decide_eq_true h, cond_true, gd_true rfl, gd_true (show 0 ≤ n ∧ n ≤ (lim (.int .u8) : Int) by omega), gd_true (by simp; omega)]
  simp only [F187_j0, show (0 : Int).toNat = 0 from rfl, List.take_zero, andO_of]
  exact hd
 ·rw [decide_eq_false h, cond_false]
  simp only [F187_j0, andO_of]
  exact hd
theorem frame_v {N : Nat} {b : List Int} (hN : 1048576 < N) (hs : b.length ≤ 1000000) : ∃ (l : List Int) (z : Bool), F90 N b = some (l, z) ∧ F94 N b = some (l, z) ∧ l.length ≤ 5000 := by
 unfold F90 F94
 by_cases h : (b.length : Int) > 4000
 ·rw [decide_eq_true h]
  exact ⟨[], false, rfl, rfl, by simp⟩
 ·rw [decide_eq_false h]
  obtain ⟨h1, h2, h3⟩ := numB_v hN (b.length : Int)
  obtain ⟨r, c1, c2⟩ := check_v hN hs
  obtain ⟨h4, h5, h6⟩ := numB_v hN r
  have e1 := join_v hN (a := [80, 83]) (b := numB N b.length) (by simp) (by omega)
  have e2 := join_v hN (a := [80, 83] ++ numB N b.length) (b := b) (by simp; omega) (by omega)
  have e3 := join_v hN (a := [80, 83] ++ numB N b.length ++ b) (b := numB N r) (by simp; omega) (by omega)
  have e4 := catB_v (ls := [[80, 83], numB N b.length, b, numB N r]) hN (by simp) (fun l hl => by
   simp only [List.mem_cons, List.not_mem_nil, or_false] at hl
   rcases hl with rfl | rfl | rfl | rfl
   ·simp
   ·omega
   ·omega
   ·omega)
  simp only [cond_false, gd_true (show 0 < ([(80 : Int), (83 : Int)]).length by simp), h1, h2, c1, c2, h4, h5, andO_of, e1, e2, e3, e4]
  refine ⟨_, true, rfl, ?_, ?_⟩
  ·simp
  ·simp; omega
theorem iEnc_l (N : Nat) (p : List Nd) (hf : Fits p) (hN : 1048576 < N) (h40 : p.length ≤ 40) : ∀ (d k1 k2 i : Nat) (out : List Int), i + d = p.length → d < k1 → d < k2 → out.length ≤ 4 + 40 * i →
  ∃ l : List Int, l.length ≤ 2000 ∧ F50_l0 N p k1 out (p.length : Int) (i : Int) = F50_j0 N l ∧ F51_l0 N p k2 out (i : Int) = F51_j0 N l := by
 intro d
 have hlim := lim_u8
 induction d with
 | zero =>
  intro k1 k2 i out h hk1 hk2 ho
  rw [F50_l0_s _ _ (by omega), F50_l0_b, F51_l0_s _ _ (by omega), F51_l0_b]
  simp only [show ¬ (i : Int) < (p.length : Int) by omega, decide_false, cond_false]
  exact ⟨out, by omega, rfl, rfl⟩
 | succ d ih =>
  intro k1 k2 i out h hk1 hk2 ho
  have hi : i < p.length := by omega
  have hm := hf.2 _ (List.getElem_mem hi)
  obtain ⟨l, e1, e2, e3⟩ := putNode_v (a := p[i]) hN hm.1 hm.2
  rw [F50_l0_s _ _ (by omega), F50_l0_b, F51_l0_s _ _ (by omega), F51_l0_b]
  simp only [show (i : Int) < (p.length : Int) by omega, decide_true, cond_true, gd_true (inR hi), Int.toNat_natCast, getD_at hi, e1, e2, andO_of, join_v hN (show out.length ≤ 1000000 by omega) (show l.length ≤ 1000000 by omega)]
  rw [gd_true (show out.length + l.length ≤ lim (.int .u8) by omega), w64 (x := (i : Int) + 1) (by omega) (by omega), show ((i : Int) + 1) = ((i + 1 : Nat) : Int) by omega]
  exact ih (k1 - 1) (k2 - 1) (i + 1) _ (by omega) (by omega) (by omega) (by rw [List.length_append]; omega)
theorem enc_v {N : Nat} {p : List Nd} (hf : Fits p) (hN : 1048576 < N) : ∃ (l : List Int) (z : Bool), F50 N p = some (l, z) ∧ F51 N p = some (l, z) ∧ l.length ≤ 5000 := by
 obtain ⟨b, h1, h2, h3⟩ := planOk_v hf hN
 unfold F50 F51
 rw [h1, h2, andO_of, andO_of]
 cases b with
 | false => exact ⟨[], false, rfl, rfl, by simp⟩
 | true =>
  obtain ⟨h40, _⟩ := h3 rfl
  obtain ⟨n1, n2, n3⟩ := numB_v hN (p.length : Int)
  obtain ⟨l, k1, k2, k3⟩ := iEnc_l N p hf hN h40 p.length N N 0 (numB N p.length) (by omega) (by omega) (by omega) (by omega)
  obtain ⟨l2, z, f1, f2, f3⟩ := frame_v (b := l) hN (by omega)
  rw [show (((0 : Nat)) : Int) = 0 from rfl] at k2 k3
  simp only [Bool.not_true, cond_false, n1, n2, andO_of, k2, k3, F50_j0, F51_j0, f1, f2]
  exact ⟨l2, z, rfl, rfl, f3⟩
theorem print_l (N : Nat) (b : List Int) (hs : b.length ≤ 1000000) : ∀ (d k1 k2 i : Nat) (x : Int), i + d = b.length → d < k1 → d < k2 → ∃ r : Int, F17_l0 N k1 x b (b.length : Int) (i : Int) = some r ∧ F18_l0 N k2 b x (i : Int) = some r := by
 intro d
 induction d with
 | zero =>
  intro k1 k2 i x h hk1 hk2
  rw [F17_l0_s _ (by omega), F17_l0_b, F18_l0_s _ (by omega), F18_l0_b]
  simp only [show ¬ (i : Int) < (b.length : Int) by omega, decide_false, cond_false, F17_j0, F18_j0]
  exact ⟨x, rfl, rfl⟩
 | succ d ih =>
  intro k1 k2 i x h hk1 hk2
  have hi : i < b.length := by omega
  rw [F17_l0_s _ (by omega), F17_l0_b, F18_l0_s _ (by omega), F18_l0_b]
  simp only [show (i : Int) < (b.length : Int) by omega, decide_true, cond_true, gd_true (inR hi), Int.toNat_natCast, gd_true hi]
  rw [w64 (x := (i : Int) + 1) (by omega) (by omega), show ((i : Int) + 1) = ((i + 1 : Nat) : Int) by omega]
  exact ih (k1 - 1) (k2 - 1) (i + 1) _ (by omega) (by omega) (by omega)
theorem print_v {N : Nat} {p : List Nd} (hf : Fits p) (hN : 1048576 < N) : ∃ r : Int, F17 N p = some r ∧ F18 N p = some r := by
 obtain ⟨l, z, e1, e2, e3⟩ := enc_v hf hN
 unfold F17 F18
 rw [e1, e2, andO_of, andO_of]
 cases z with
 | false => exact ⟨-1, rfl, rfl⟩
 | true => exact print_l N l (by omega) l.length N N 0 97 (by omega) (by omega) (by omega)
end Go.Proofs.YtmkhmpcealeidaaGreat.Vc
namespace Go.Proofs.YtmkhmpcealeidaaGreat.Vc
open Go Go.RowKit
set_option linter.unusedVariables false
set_option linter.unusedSimpArgs false
abbrev Cur := List Int × (Int × Int)
def CurOk (c : Cur) : Prop := 0 ≤ c.2.1 ∧ c.2.1 ≤ c.1.length ∧ c.1.length ≤ 2000000
theorem and255 (x : BitVec 64) : 0 ≤ IntKind.i64.wrap (((x &&& BitVec.ofInt 64 (255 : Int)).toNat : Nat) : Int) ∧ IntKind.i64.wrap (((x &&& BitVec.ofInt 64 (255 : Int)).toNat : Nat) : Int) ≤ 255 := by
 have h : (x &&& BitVec.ofInt 64 (255 : Int)).toNat ≤ 255 := by
  rw [BitVec.toNat_and]
  exact Nat.le_trans Nat.and_le_right (by decide)
 rw [w64 (by omega) (by omega)]
 omega
theorem l01Byte_v (N : Nat) {c : Cur} (hc : CurOk c) : ∃ c' x, F95 N c = some (c', x) ∧ CurOk c' ∧ 0 ≤ x ∧ x ≤ 255 := by
 obtain ⟨h1, h2, h3⟩ := hc
 unfold F95 F95_j0
 by_cases h : c.2.1 < (c.1.length : Int)
 ·rw [decide_eq_true h, cond_true, gd_true ⟨h1, h⟩, w64 (x := c.2.1 + 1) (by omega) (by omega)]
  exact ⟨_, _, rfl, ⟨by show 0 ≤ c.2.1 + 1; omega, by show c.2.1 + 1 ≤ (c.1.length : Int); omega, h3⟩, (and255 _).1, (and255 _).2⟩
 ·rw [decide_eq_false h, cond_false]
  exact ⟨_, _, rfl, ⟨h1, h2, h3⟩, (and255 _).1, (and255 _).2⟩
theorem l01Below_v (N : Nat) {c : Cur} (hc : CurOk c) {n : Int} (hn : n ≤ 256) : ∃ c' x, F52 N c n = some (c', x) ∧ CurOk c' ∧ 0 ≤ x ∧ (0 < n → x < n) ∧ x ≤ 255 := by
 unfold F52
 by_cases h : n ≤ 0
 ·rw [decide_eq_true h, cond_true]
  exact ⟨_, _, rfl, hc, by omega, fun _ => by omega, by omega⟩
 ·obtain ⟨c', x, e1, e2, e3, e4⟩ := l01Byte_v N hc
  rw [decide_eq_false h, cond_false, decide_eq_true hn, cond_true, e1, andO_of, gd_true (by omega)]
  have ht : Int.tmod x n = x % n := Int.tmod_eq_emod_of_nonneg e3
  have hp := Int.emod_nonneg x (show n ≠ 0 by omega)
  have hl := Int.emod_lt_of_pos x (show 0 < n by omega)
  refine ⟨_, _, rfl, e2, by rw [ht]; exact hp, fun _ => by rw [ht]; exact hl, by rw [ht]; omega⟩
theorem l01Once_v (N : Nat) {c : Cur} (hc : CurOk c) {n : Int} (hn : n ≤ 256) : ∃ c' b, F34 N c n = some (c', b) ∧ CurOk c' := by
 obtain ⟨c', x, e1, e2, _⟩ := l01Below_v N hc hn
 unfold F34
 rw [e1, andO_of]
 exact ⟨_, _, rfl, e2⟩
theorem l01PickInt_v (N : Nat) {c : Cur} (hc : CurOk c) {l : List Int} (h0 : l ≠ []) (hl : l.length ≤ 256) : ∃ c' x, F99 N c l = some (c', x) ∧ CurOk c' ∧ x ∈ l := by
 have hp : 0 < l.length := List.length_pos_iff.2 h0
 obtain ⟨c', x, e1, e2, e3, e4, _⟩ := l01Below_v N hc (n := (l.length : Int)) (by omega)
 have hx := e4 (by omega)
 unfold F99
 rw [e1, andO_of, gd_true ⟨e3, hx⟩]
 refine ⟨_, _, rfl, e2, ?_⟩
 rw [getD_at (show x.toNat < l.length by omega)]
 exact List.getElem_mem _
theorem l01New_l (N : Nat) (a : List Int) (hs : a.length ≤ 2000000) : ∀ (d k i : Nat) (x : Int), i + d = a.length → d < k → ∃ h, F33_l0 N a k x (i : Int) = some (a, (0, h)) := by
 intro d
 induction d with
 | zero =>
  intro k i x h hk
  rw [F33_l0_s _ _ (by omega), F33_l0_b]
  simp only [show ¬ (i : Int) < (a.length : Int) by omega, decide_false, cond_false, F33_j0]
  exact ⟨_, rfl⟩
 | succ d ih =>
  intro k i x h hk
  have hi : i < a.length := by omega
  rw [F33_l0_s _ _ (by omega), F33_l0_b]
  simp only [show (i : Int) < (a.length : Int) by omega, decide_true, cond_true, gd_true (inR hi)]
  by_cases h4 : (i : Int) < 4000
  ·rw [decide_eq_true h4, cond_true, w64 (x := (i : Int) + 1) (by omega) (by omega), show ((i : Int) + 1) = ((i + 1 : Nat) : Int) by omega]
   exact ih (k - 1) (i + 1) _ (by omega) (by omega)
  ·rw [decide_eq_false h4, cond_false, F33_j0]
   exact ⟨_, rfl⟩
theorem l01New_v {N : Nat} {a : List Int} (hs : a.length ≤ 2000000) (hN : 2000000 < N) : ∃ c, F33 N a = some c ∧ CurOk c := by
 unfold F33
 obtain ⟨h, e⟩ := l01New_l N a hs a.length N 0 (IntKind.i64.wrap ((844844 : Int) + (a.length : Int))) (by omega) (by omega)
 exact ⟨_, e, by show (0 : Int) ≤ 0; omega, by show (0 : Int) ≤ _; omega, hs⟩
theorem alt_l (N : Nat) (a : List Int) (hs : a.length ≤ 1048576) : ∀ (d k i : Nat) (u : List Int), i + d = a.length → d < k → u.length ≤ i + 1 → i ≤ 3000 → ∃ r : List Int, F20_l0 N a k u (i : Int) = some r ∧ r.length ≤ 2000000 := by
 intro d
 have hlim := lim_u8
 induction d with
 | zero =>
  intro k i u h hk hu h3
  rw [F20_l0_s _ _ (by omega), F20_l0_b]
  simp only [show ¬ (i : Int) < (a.length : Int) by omega, decide_false, cond_false, F20_j0]
  exact ⟨_, rfl, by omega⟩
 | succ d ih =>
  intro k i u h hk hu h3
  have hi : i < a.length := by omega
  rw [F20_l0_s _ _ (by omega), F20_l0_b]
  simp only [show (i : Int) < (a.length : Int) by omega, decide_true, cond_true, gd_true (inR hi), F20_j0]
  by_cases h4 : (i : Int) < 3000
  ·rw [decide_eq_true h4, cond_true, gd_true (by simp; omega), w64 (x := (i : Int) + 1) (by omega) (by omega), show ((i : Int) + 1) = ((i + 1 : Nat) : Int) by omega]
   exact ih (k - 1) (i + 1) _ (by omega) (by omega) (by simp; omega) (by omega)
  ·rw [decide_eq_false h4, cond_false]
   exact ⟨_, rfl, by omega⟩
theorem alt_v {N : Nat} {a : List Int} (k : Int) (hs : a.length ≤ 1048576) (hN : 2000000 < N) : ∃ r : List Int, F20 N a k = some r ∧ r.length ≤ 2000000 := by
 unfold F20
 exact alt_l N a hs a.length N 0 _ (by omega) (by omega) (by simp) (by omega)
theorem same_r {N : Nat} {a : List Int} (hs : a.length < N) (h2 : a.length ≤ 2000000) : F10 N a a = some true := by
 have key : ∀ (d k i : Nat), i + d = a.length → d < k → F10_l0 N a a k (i : Int) = some true := by
  intro d
  induction d with
  | zero =>
   intro k i h hk
   rw [F10_l0_s _ _ _ (by omega), F10_l0_b]
   simp only [show ¬ (i : Int) < (a.length : Int) by omega, decide_false, cond_false, F10_j0]
  | succ d ih =>
   intro k i h hk
   have hi : i < a.length := by omega
   rw [F10_l0_s _ _ _ (by omega), F10_l0_b]
   simp only [show (i : Int) < (a.length : Int) by omega, decide_true, cond_true, gd_true (inR hi), bne_self_eq_false, cond_false]
   rw [w64 (by omega) (by omega), show ((i : Int) + 1) = ((i + 1 : Nat) : Int) by omega]
   exact ih (k - 1) (i + 1) (by omega) (by omega)
 unfold F10
 simp only [bne_self_eq_false, cond_false]
 exact key a.length N 0 (by omega) (by omega)
end Go.Proofs.YtmkhmpcealeidaaGreat.Vc
namespace Go.Proofs.YtmkhmpcealeidaaGreat.Vc
open Go Go.RowKit
set_option linter.unusedVariables false
set_option linter.unusedSimpArgs false
def Few (n : Nat) (p : List Nd) : Prop := p.length ≤ n ∧ ∀ x ∈ p, x.2.1.size ≤ 1000 ∧ x.2.2.2.2.2.2.length ≤ 1000
theorem Few.fits {n : Nat} {p : List Nd} (h : Few n p) (hn : n ≤ 1048576) : Fits p :=
 ⟨Nat.le_trans h.1 hn, fun x hx => ⟨by have := (h.2 x hx).1; omega, by have := (h.2 x hx).2; omega⟩⟩
theorem Few.mono {n m : Nat} {p : List Nd} (h : Few n p) (hm : n ≤ m) : Few m p := ⟨Nat.le_trans h.1 hm, h.2⟩
theorem Few.set {n : Nat} {p : List Nd} (h : Few n p) (i : Nat) {y : Nd} (hy : y.2.1.size ≤ 1000 ∧ y.2.2.2.2.2.2.length ≤ 1000) : Few n (p.set i y) := by
 refine ⟨by rw [List.length_set]; exact h.1, fun x hx => ?_⟩
 rcases List.mem_or_eq_of_mem_set hx with hx | rfl
 ·exact h.2 x hx
 ·exact hy
theorem Few.append {n m : Nat} {p q : List Nd} (h : Few n p) (k : Few m q) : Few (n + m) (p ++ q) := by
 refine ⟨by rw [List.length_append]; exact Nat.add_le_add h.1 k.1, fun x hx => ?_⟩
 rcases List.mem_append.1 hx with hx | hx
 ·exact h.2 x hx
 ·exact k.2 x hx
theorem Few.one {y : Nd} (hy : y.2.1.size ≤ 1000 ∧ y.2.2.2.2.2.2.length ≤ 1000) : Few 1 [y] := by
 refine ⟨Nat.le_refl _, fun x hx => ?_⟩
 rw [List.mem_singleton] at hx
 subst hx
 exact hy
theorem Few.at {n : Nat} {p : List Nd} (h : Few n p) {i : Nat} (hi : i < p.length) : p[i].2.1.size ≤ 1000 ∧ p[i].2.2.2.2.2.2.length ≤ 1000 := h.2 _ (List.getElem_mem hi)
theorem l01BelowG_v (N : Nat) {c : Cur} (hc : CurOk c) (n : Int) : ∃ c' x, F52 N c n = some (c', x) ∧ CurOk c' ∧ 0 ≤ x ∧ (0 < n → x < n) := by
 by_cases hn : n ≤ 256
 ·obtain ⟨c', x, h1, h2, h3, h4, h5⟩ := l01Below_v N hc hn
  exact ⟨c', x, h1, h2, h3, h4⟩
 ·obtain ⟨c1, x1, e1, f1, g1, k1⟩ := l01Byte_v N hc
  obtain ⟨c2, x2, e2, f2, g2, k2⟩ := l01Byte_v N f1
  obtain ⟨c3, x3, e3, f3, g3, k3⟩ := l01Byte_v N f2
  unfold F52
  rw [show decide (n ≤ 0) = false by simp; omega, cond_false, show decide (n ≤ 256) = false by simp; omega, cond_false, e1, andO_of, e2, andO_of, e3, andO_of, gd_true (by omega)]
  rw [w64 (x := x1 * 65536) (by omega) (by omega), w64 (x := x2 * 256) (by omega) (by omega), w64 (x := x1 * 65536 + x2 * 256) (by omega) (by omega), w64 (x := x1 * 65536 + x2 * 256 + x3) (by omega) (by omega)]
  have ht : Int.tmod (x1 * 65536 + x2 * 256 + x3) n = (x1 * 65536 + x2 * 256 + x3) % n := Int.tmod_eq_emod_of_nonneg (by omega)
  have hp := Int.emod_nonneg (x1 * 65536 + x2 * 256 + x3) (show n ≠ 0 by omega)
  have hl := Int.emod_lt_of_pos (x1 * 65536 + x2 * 256 + x3) (show 0 < n by omega)
  exact ⟨_, _, rfl, f3, by rw [ht]; exact hp, fun _ => by rw [ht]; exact hl⟩
theorem joined_l (N : Nat) (hN : 1048576 < N) (ls : List (List Nd)) (hl : ls.length ≤ 1000) (hs : ∀ p ∈ ls, Few 300000 p) : ∀ (d k i : Nat) (u : List Nd), i + d = ls.length → d < k → u.length + d * 300000 ≤ 1048576 →
  F162_l0 N ls k u (i : Int) = some (u ++ (ls.drop i).flatten) := by
 have hlim := lim_nd
 intro d
 induction d with
 | zero =>
  intro k i u h hk hu
  rw [F162_l0_s _ _ (by omega), F162_l0_b]
  simp only [show ¬ (i : Int) < (ls.length : Int) by omega, decide_false, cond_false, F162_j0]
  rw [List.drop_of_length_le (by omega), List.flatten_nil, List.append_nil]
 | succ d ih =>
  intro k i u h hk hu
  have hi : i < ls.length := by omega
  have hp := hs _ (List.getElem_mem hi)
  have hpl := hp.1
  rw [F162_l0_s _ _ (by omega), F162_l0_b]
  simp only [show (i : Int) < (ls.length : Int) by omega, decide_true, cond_true, gd_true (inR hi), Int.toNat_natCast, getD_at hi, l02Copy_v (hp.fits (by omega)) hN, andO_of]
  rw [gd_true (show u.length + ls[i].length ≤ lim ndT by omega), w64 (by omega) (by omega), show ((i : Int) + 1) = ((i + 1 : Nat) : Int) by omega, ih (k - 1) (i + 1) _ (by omega) (by omega) (by rw [List.length_append]; omega)]
  rw [List.drop_eq_getElem_cons hi, List.flatten_cons, List.append_assoc]
theorem joined_v {N : Nat} (hN : 1048576 < N) {ls : List (List Nd)} (hl : ls.length ≤ 3) (hs : ∀ p ∈ ls, Few 300000 p) : F162 N ls = some ls.flatten := by
 unfold F162
 have := joined_l N hN ls (by omega) hs ls.length N 0 [] (by omega) (by omega) (by simp; omega)
 rw [List.drop_zero, List.nil_append] at this
 exact this
def DrawnP (r : Option (Cur × List Nd × Int)) (L : Nat) : Prop := ∃ c p w, r = some (c, p, w) ∧ CurOk c ∧ Few L p ∧ 0 ≤ w ∧ w ≤ (L : Int)
theorem draw_j1 {N : Nat} (hN : 1048576 < N) {c : Cur} (hc : CurOk c) (kind a b d : Int) {cols : List Int} (hcols : cols.length ≤ 1000) {p : List Nd} {L M : Nat} (hp : Few L p) (hL : L ≤ 300000) (hM : L + 1 ≤ M) {w : Int} (h0 : 0 ≤ w) (hw : w ≤ (M : Int)) :
  DrawnP (F103_j1 N kind p w a b d cols c.1 c.2.1 c.2.2) M := by
 unfold F103_j1
 have h1 : Few 1 [((kind, (ByteArray.empty, (a, (b, (d, (false, cols)))))) : Nd)] := Few.one ⟨by simp, hcols⟩
 have hj := joined_v hN (ls := [[((kind, (ByteArray.empty, (a, (b, (d, (false, cols)))))) : Nd)], p]) (by simp) (by
  intro q hq
  simp only [List.mem_cons, List.not_mem_nil, or_false] at hq
  rcases hq with rfl | rfl
  ·exact h1.mono (by omega)
  ·exact hp.mono hL)
 rw [hj, andO_of]
 refine ⟨c, _, w, rfl, hc, ?_, h0, hw⟩
 simp only [List.flatten_cons, List.flatten_nil, List.append_nil]
 exact (h1.append hp).mono (by omega)
theorem draw_l0 {N : Nat} (hN : 1048576 < N) (kind : Int) {p : List Nd} {L M : Nat} (hp : Few L p) (hL : L ≤ 300000) (hM : L + 4 ≤ M) (w : Int) : ∀ (d k : Nat) (c : Cur) (cols : List Int) (z : Int), CurOk c → z ≤ (d : Int) → d < k → cols.length + d ≤ 4 →
  DrawnP (F103_l0 N kind k c.1 c.2.1 c.2.2 p w cols z) M := by
 have hlim := lim_i64
 intro d
 induction d with
 | zero =>
  intro k c cols z hc hz hk hcols
  rw [F103_l0_s _ _ (by omega), F103_l0_b]
  rw [show decide (z > 0) = false by simp; omega, cond_false, F103_j2]
  exact draw_j1 hN hc kind _ _ _ (by omega) hp hL (by omega) (by omega) (by omega)
 | succ d ih =>
  intro k c cols z hc hz hk hcols
  rw [F103_l0_s _ _ (by omega), F103_l0_b]
  by_cases h : z > 0
  ·obtain ⟨c1, x, e1, f1, g1, k1⟩ := l01BelowG_v N hc w
   rw [decide_eq_true h, cond_true, show ((c.1, (c.2.1, c.2.2)) : Cur) = c from rfl, e1, andO_of, gd_true (by simp; omega), w64 (by omega) (by omega)]
   exact ih (k - 1) c1 (cols ++ [x]) (z - 1) f1 (by omega) (by omega) (by simp; omega)
  ·rw [decide_eq_false h, cond_false, F103_j2]
   exact draw_j1 hN hc kind _ _ _ (by omega) hp hL (by omega) (by omega) (by omega)
theorem draw_j0 {N : Nat} (hN : 1048576 < N) {c : Cur} (hc : CurOk c) {p q : List Nd} {L K M : Nat} (hp : Few L p) (hq : Few K q) (hL : L ≤ 300000) (hK : K ≤ 300000) (hM : L + K + 1 ≤ M) {w : Int} (h0 : 0 ≤ w) (hw : w ≤ (M : Int)) :
  DrawnP (F103_j0 N p w q c.1 c.2.1 c.2.2) M := by
 unfold F103_j0
 have h1 : Few 1 [(((4 : Int), (ByteArray.empty, ((0 : Int), ((0 : Int), ((0 : Int), (false, []))))))  : Nd)] := Few.one ⟨by simp, by simp⟩
 have hj := joined_v hN (ls := [[(((4 : Int), (ByteArray.empty, ((0 : Int), ((0 : Int), ((0 : Int), (false, []))))))  : Nd)], p, q]) (by simp) (by
  intro q' hq'
  simp only [List.mem_cons, List.not_mem_nil, or_false] at hq'
  rcases hq' with rfl | rfl | rfl
  ·exact h1.mono (by omega)
  ·exact hp.mono hL
  ·exact hq.mono hK)
 rw [hj, andO_of]
 refine ⟨c, _, w, rfl, hc, ?_, h0, hw⟩
 simp only [List.flatten_cons, List.flatten_nil, List.append_nil]
 exact (h1.append (hp.append hq)).mono (by omega)
theorem keep_v {N : Nat} (hN : 1048576 < N) {p : List Nd} {L : Nat} (hp : Few L p) (hL : L ≤ 300000) : ∃ q, F162 N ([[((2 : Int), (ByteArray.empty, ((0 : Int), ((0 : Int), ((0 : Int), (false, [(0 : Int)]))))))], p]) = some q ∧ Few (L + 1) q := by
 have h1 : Few 1 [(((2 : Int), (ByteArray.empty, ((0 : Int), ((0 : Int), ((0 : Int), (false, [(0 : Int)]))))))  : Nd)] := Few.one ⟨by simp, by simp⟩
 refine ⟨_, joined_v hN (ls := [[(((2 : Int), (ByteArray.empty, ((0 : Int), ((0 : Int), ((0 : Int), (false, [(0 : Int)]))))))  : Nd)], p]) (by simp) (by
  intro q' hq'
  simp only [List.mem_cons, List.not_mem_nil, or_false] at hq'
  rcases hq' with rfl | rfl
  ·exact h1.mono (by omega)
  ·exact hp.mono hL), ?_⟩
 simp only [List.flatten_cons, List.flatten_nil, List.append_nil]
 exact (h1.append hp).mono (by omega)
def roomL : Nat → Nat
 | 0 => 4
 | n + 1 => 4 * roomL n
theorem roomL_pos : ∀ n, 4 ≤ roomL n
 | 0 => Nat.le_refl _
 | n + 1 => by have := roomL_pos n; rw [roomL]; omega
theorem roomL_mono : ∀ (d n : Nat), roomL n ≤ roomL (n + d)
 | 0, _ => Nat.le_refl _
 | d + 1, n => by have := roomL_mono d n; rw [← Nat.add_assoc, roomL]; omega
theorem draw_r (N : Nat) (hN : 1048576 < N) : ∀ (n k : Nat) (a : Int) (c : Cur), CurOk c → a ≤ (n : Int) → n ≤ 7 → n < k → DrawnP (F103_r N k c a) (roomL n) := by
 intro n
 induction n using Nat.strongRecOn with
 | _ n ih =>
  intro k a c hc ha h8 hk
  have hsmall : roomL n ≤ 65536 := by
   have := roomL_mono (7 - n) n
   rw [show n + (7 - n) = 7 by omega] at this
   exact this
  have hpos := roomL_pos n
  rw [F103_s _ (by omega)]
  unfold F103_b
  obtain ⟨c1, kind, e1, hc1, hmem⟩ := l01PickInt_v N hc (l := [(0 : Int), (1 : Int), (1 : Int), (1 : Int), (2 : Int), (3 : Int), (4 : Int), (5 : Int), (6 : Int), (7 : Int)]) (by simp) (by simp)
  rw [e1, andO_of]
  -- a table
  have scan : DrawnP (F103_j3 N a (F103_r N (k - 1)) c1.1 c1.2.1 c1.2.2 0) (roomL n) := by
   unfold F103_j3
   rw [show ((0 : Int) == 0) = true from rfl, cond_true]
   obtain ⟨c2, x, e2, hc2, x0, x1, _⟩ := l01Below_v N hc1 (n := 3) (by omega)
   have x1 := x1 (by omega)
   rw [show ((c1.1, (c1.2.1, c1.2.2)) : Cur) = c1 from rfl, e2, andO_of, gd_true ⟨x0, by simpa using x1⟩, gd_true (show x.toNat < _ by simp; omega), gd_true ⟨x0, by simpa using x1⟩, gd_true (show x.toNat < _ by simp; omega)]
   have hx : x.toNat = 0 ∨ x.toNat = 1 ∨ x.toNat = 2 := by omega
   refine ⟨c2, _, _, rfl, hc2, (Few.one ⟨?_, by simp⟩).mono (by omega), ?_, ?_⟩
   ·rcases hx with h | h | h <;> simp only [h] <;> decide
   ·rcases hx with h | h | h <;> simp [h]
   ·rcases hx with h | h | h <;> simp [h] <;> omega
  by_cases h1 : a ≤ 1
  ·rw [decide_eq_true h1, cond_true]
   exact scan
  ·rw [decide_eq_false h1, cond_false]
   obtain ⟨m, rfl⟩ : ∃ m, n = m + 2 := ⟨n - 2, by omega⟩
   have e4 : roomL (m + 2) = 4 * roomL (m + 1) := rfl
   have e4' : roomL (m + 1) = 4 * roomL m := rfl
   have hm1 := roomL_pos m
   have w1 : IntKind.i64.wrap (a - 1) = a - 1 := w64 (by omega) (by omega)
   have w2 : IntKind.i64.wrap (a - 2) = a - 2 := w64 (by omega) (by omega)
   have rec1 : ∀ c, CurOk c → DrawnP (F103_r N (k - 1) c (a - 1)) (roomL (m + 1)) := fun c hc => ih (m + 1) (by omega) (k - 1) (a - 1) c hc (by omega) (by omega) (by omega)
   have rec2 : ∀ c, CurOk c → DrawnP (F103_r N (k - 1) c (a - 2)) (roomL m) := fun c hc => ih m (by omega) (k - 1) (a - 2) c hc (by omega) (by omega) (by omega)
   by_cases hk0 : kind = 0
   ·rw [hk0]
    exact scan
   ·unfold F103_j3
    rw [show (kind == 0) = false by simpa using hk0, cond_false, w1, w2, show ((c1.1, (c1.2.1, c1.2.2)) : Cur) = c1 from rfl]
    obtain ⟨c2, p, w, e2, hc2, hp, p0, pw⟩ := rec1 c1 hc1
    rw [e2]
    simp only [andO_of]
    by_cases hk3 : kind = 3
    ·rw [show (kind == 3) = true by simpa using hk3, cond_true]
     obtain ⟨c3, q, v, e3, hc3, hq, q0, qw⟩ := rec2 c2 hc2
     obtain ⟨c4, x, e4x, hc4, _⟩ := l01BelowG_v N hc3 w
     obtain ⟨c5, y, e5, hc5, _⟩ := l01BelowG_v N hc4 v
     rw [e3, andO_of, e4x, andO_of, e5, andO_of]
     have f1 : Few 1 [(((3 : Int), (ByteArray.empty, (x, ((0 : Int), (y, (false, [])))))) : Nd)] := Few.one ⟨by simp, by simp⟩
     have hj := joined_v hN (ls := [[(((3 : Int), (ByteArray.empty, (x, ((0 : Int), (y, (false, [])))))) : Nd)], p, q]) (by simp) (by
      intro q' hq'
      simp only [List.mem_cons, List.not_mem_nil, or_false] at hq'
      rcases hq' with rfl | rfl | rfl
      ·exact f1.mono (by omega)
      ·exact hp.mono (by omega)
      ·exact hq.mono (by omega))
     rw [hj, andO_of]
     simp only []
     rw [w64 (x := w + v) (by omega) (by omega)]
     refine ⟨c5, _, _, rfl, hc5, ?_, by omega, by omega⟩
     simp only [List.flatten_cons, List.flatten_nil, List.append_nil]
     exact (f1.append (hp.append hq)).mono (by omega)
    ·rw [show (kind == 3) = false by simpa using hk3, cond_false]
     by_cases hk4 : kind = 4
     ·rw [show (kind == 4) = true by simpa using hk4, cond_true]
      obtain ⟨c3, q, v, e3, hc3, hq, q0, qw⟩ := rec2 c2 hc2
      rw [e3, andO_of]
      cases (v != w) with
      | false =>
       rw [cond_false]
       exact draw_j0 hN hc3 hp hq (by omega) (by omega) (by omega) p0 (by omega)
      | true =>
       obtain ⟨p', g1, hp'⟩ := keep_v hN hp (by omega)
       obtain ⟨q', g2, hq'⟩ := keep_v hN hq (by omega)
       rw [cond_true, g1, andO_of, g2, andO_of]
       exact draw_j0 hN hc3 hp' hq' (by omega) (by omega) (by omega) (by omega) (by omega)
     ·rw [show (kind == 4) = false by simpa using hk4, cond_false]
      by_cases hk1 : kind = 1
      ·obtain ⟨c3, x, e3, hc3, _⟩ := l01BelowG_v N hc2 w
       obtain ⟨c4, y, e4x, hc4, _⟩ := l01BelowG_v N hc3 4
       obtain ⟨c5, z, e5, hc5, _⟩ := l01BelowG_v N hc4 6
       rw [show (kind == 1) = true by simpa using hk1, cond_true, e3, andO_of, e4x, andO_of, e5, andO_of]
       cases (y != 3) with
       | true =>
        rw [cond_true]
        exact draw_j1 hN hc5 kind _ _ _ (by simp) hp (by omega) (by omega) p0 (by omega)
       | false =>
        rw [cond_false]
        exact draw_j1 hN hc4 kind _ _ _ (by simp) hp (by omega) (by omega) p0 (by omega)
      ·rw [show (kind == 1) = false by simpa using hk1, cond_false]
       by_cases hk2 : kind = 2
       ·obtain ⟨c3, x, e3, hc3, x0, x1, _⟩ := l01Below_v N hc2 (n := 3) (by omega)
        have x1 := x1 (by omega)
        rw [show (kind == 2) = true by simpa using hk2, cond_true, e3, andO_of, w64 (by omega) (by omega)]
        exact draw_l0 hN kind hp (by omega) (by omega) w 3 N c3 [] (1 + x) hc3 (by omega) (by omega) (by simp)
       ·rw [show (kind == 2) = false by simpa using hk2, cond_false]
        by_cases hk5 : kind = 5
        ·obtain ⟨c3, x, e3, hc3, _⟩ := l01BelowG_v N hc2 w
         rw [show (kind == 5) = true by simpa using hk5, cond_true, e3, andO_of]
         exact draw_j1 hN hc3 kind _ _ _ (by simp) hp (by omega) (by omega) p0 (by omega)
        ·rw [show (kind == 5) = false by simpa using hk5, cond_false]
         by_cases hk6 : kind = 6
         ·obtain ⟨c3, x, e3, hc3, _⟩ := l01BelowG_v N hc2 6
          rw [show (kind == 6) = true by simpa using hk6, cond_true, e3, andO_of]
          exact draw_j1 hN hc3 kind _ _ _ (by simp) hp (by omega) (by omega) p0 (by omega)
         ·rw [show (kind == 6) = false by simpa using hk6, cond_false]
          exact draw_j1 hN hc2 kind _ _ _ (by simp) hp (by omega) (by omega) p0 (by omega)
end Go.Proofs.YtmkhmpcealeidaaGreat.Vc
namespace Go.Proofs.YtmkhmpcealeidaaGreat.Vc
open Go Go.RowKit
set_option linter.unusedVariables false
set_option linter.unusedSimpArgs false
def Few2 (n : Nat) (p : List Nd) : Prop := p.length ≤ n ∧ ∀ x ∈ p, x.2.1.size ≤ 1000 ∧ x.2.2.2.2.2.2.length ≤ 2000
theorem Few2.fits {n : Nat} {p : List Nd} (h : Few2 n p) (hn : n ≤ 1048576) : Fits p :=
 ⟨Nat.le_trans h.1 hn, fun x hx => ⟨by have := (h.2 x hx).1; omega, by have := (h.2 x hx).2; omega⟩⟩
theorem Few.two {n m : Nat} {p : List Nd} (h : Few n p) (hm : n ≤ m) : Few2 m p := ⟨Nat.le_trans h.1 hm, fun x hx => ⟨(h.2 x hx).1, by have := (h.2 x hx).2; omega⟩⟩
theorem Few2.set {n : Nat} {p : List Nd} (h : Few2 n p) (i : Nat) {y : Nd} (hy : y.2.1.size ≤ 1000 ∧ y.2.2.2.2.2.2.length ≤ 2000) : Few2 n (p.set i y) := by
 refine ⟨by rw [List.length_set]; exact h.1, fun x hx => ?_⟩
 rcases List.mem_or_eq_of_mem_set hx with hx | rfl
 ·exact h.2 x hx
 ·exact hy
theorem size7_v (N : Nat) {a : List Int} (hs : a.length ≤ 2000000) : ∃ r, F104 N a 7 = some r ∧ 2 ≤ r ∧ r ≤ 7 := by
 unfold F104
 have ht : Int.tdiv (a.length : Int) 16 = (a.length : Int) / 16 := Int.tdiv_eq_ediv_of_nonneg (by omega)
 rw [ht, w64 (x := (a.length : Int) / 16) (by omega) (by omega), w64 (by omega) (by omega)]
 by_cases h : 2 + (a.length : Int) / 16 > 7
 ·rw [decide_eq_true h]
  exact ⟨_, rfl, by omega, by omega⟩
 ·rw [decide_eq_false h]
  exact ⟨_, rfl, by omega, by omega⟩
theorem deep_v {N : Nat} (hN : 1048576 < N) {a : List Int} (hs : a.length ≤ 2000000) {c : Cur} (hc : CurOk c) : ∃ c' p, F59 N c a = some (c', p) ∧ CurOk c' ∧ Few 65536 p := by
 unfold F59
 obtain ⟨r, e1, r0, r1⟩ := size7_v N hs
 obtain ⟨c1, x, e2, hc1, x0, x1, _⟩ := l01Below_v N hc (n := r) (by omega)
 have x1 := x1 (by omega)
 rw [e1, andO_of, e2, andO_of]
 simp only []
 rw [w64 (x := 1 + x) (by omega) (by omega)]
 obtain ⟨c2, p, w, e3, hc2, hp, _⟩ := draw_r N hN 7 N (1 + x) c1 hc1 (by omega) (by omega) (by omega)
 unfold F103
 rw [e3, andO_of]
 exact ⟨c2, p, rfl, hc2, hp.mono (by decide)⟩
theorem break_v {N : Nat} (hN : 1048576 < N) {c : Cur} (hc : CurOk c) {p : List Nd} {L : Nat} (hp : Few L p) (hL : L ≤ 65536) : ∃ c' q, F60 N c p = some (c', q) ∧ CurOk c' ∧ Few2 (L + 1) q := by
 have hlim := lim_nd
 have hlim2 := lim_i64
 have hpl := hp.1
 unfold F60
 obtain ⟨c1, b, e1, hc1⟩ := l01Once_v N hc (n := 8) (by omega)
 rw [e1, andO_of]
 cases b with
 | false => exact ⟨c1, p, rfl, hc1, hp.two (by omega)⟩
 | true =>
  rw [Bool.not_true, cond_false]
  by_cases h0 : (p.length : Int) = 0
  ·rw [show ((p.length : Int) == 0) = true by simpa using h0, cond_true]
   exact ⟨c1, p, rfl, hc1, hp.two (by omega)⟩
  ·rw [show ((p.length : Int) == 0) = false by simpa using h0, cond_false]
   obtain ⟨c2, i, e2, hc2, i0, i1⟩ := l01BelowG_v N hc1 (p.length : Int)
   have i1 := i1 (by omega)
   obtain ⟨c3, z, e3, hc3, _⟩ := l01Below_v N hc2 (n := 7) (by omega)
   have hi : i.toNat < p.length := by omega
   have hr : InR i p.length := ⟨i0, i1⟩
   rw [e2, andO_of, e3, andO_of]
   simp only [gd_true hr, gd_true hi, getD_at hi, F60_j0]
   have hat := hp.at hi
   have hset : ∀ y : Nd, y.2.1.size ≤ 1000 ∧ y.2.2.2.2.2.2.length ≤ 2000 → Few2 (L + 1) (p.set i.toNat y) := fun y hy => (hp.two (m := L + 1) (by omega)).set _ hy
   have hat2 : p[i.toNat].2.1.size ≤ 1000 ∧ p[i.toNat].2.2.2.2.2.2.length ≤ 2000 := ⟨hat.1, by omega⟩
   cases (z == 0) with
   | true =>
    obtain ⟨c4, y, e4, hc4, _⟩ := l01Below_v N hc3 (n := 10) (by omega)
    rw [cond_true, e4, andO_of]
    exact ⟨c4, _, rfl, hc4, hset _ hat2⟩
   | false =>
    rw [cond_false]
    cases (z == 1) with
    | true =>
     obtain ⟨c4, y, e4, hc4, _⟩ := l01PickInt_v N hc3 (l := [(-1 : Int), (63 : Int), (64 : Int), (2 : Int)]) (by simp) (by simp)
     rw [cond_true, e4, andO_of]
     exact ⟨c4, _, rfl, hc4, hset _ hat2⟩
    | false =>
     rw [cond_false]
     cases (z == 2) with
     | true =>
      obtain ⟨c4, y, e4, hc4, _⟩ := l01PickInt_v N hc3 (l := [(-1 : Int), (1000000 : Int), (1000001 : Int)]) (by simp) (by simp)
      rw [cond_true, e4, andO_of]
      exact ⟨c4, _, rfl, hc4, hset _ hat2⟩
     | false =>
      rw [cond_false]
      cases (z == 3) with
      | true => exact ⟨c3, _, rfl, hc3, hset _ hat2⟩
      | false =>
       rw [cond_false]
       cases (z == 4) with
       | true =>
        rw [cond_true, gd_true (by show _ ≤ lim ndT; simp; omega)]
        refine ⟨c3, _, rfl, hc3, ?_⟩
        exact (hp.append (Few.one hat)).two (Nat.le_refl _)
       | false =>
        rw [cond_false]
        cases (z == 5) with
        | true =>
         rw [cond_true, gd_true (by omega)]
         refine ⟨c3, _, rfl, hc3, ?_, fun x hx => ?_⟩
         ·simp only [List.length_take]
          omega
         ·have := hp.2 x (List.mem_of_mem_take hx)
          exact ⟨this.1, by omega⟩
        | false =>
         rw [cond_false]
         cases (z == 6) with
         | true =>
          rw [cond_true, gd_true ⟨i0, hi, by omega⟩]
          exact ⟨c3, _, rfl, hc3, hset _ ⟨hat.1, by simp; omega⟩⟩
         | false => exact ⟨c3, _, rfl, hc3, hp.two (by omega)⟩
theorem slotted_l (N : Nat) (hN : 1048576 < N) (L : Nat) (hL : L ≤ 65536) : ∀ (d k i : Nat) (c : Cur) (p : List Nd) (s : Int), CurOk c → Few L p → i + d = p.length → d < k → 0 ≤ s → s ≤ i →
  ∃ c' q, F35_l0 N k c.1 c.2.1 c.2.2 p s (i : Int) = some (c', q) ∧ CurOk c' ∧ Few2 (L + 1) q := by
 intro d
 induction d with
 | zero =>
  intro k i c p s hc hp h hk s0 s1
  rw [F35_l0_s _ (by omega), F35_l0_b]
  simp only [show ¬ (i : Int) < (p.length : Int) by omega, decide_false, cond_false, F35_j0]
  obtain ⟨c1, q, e1, hc1, hq⟩ := break_v hN hc hp hL
  rw [show ((c.1, (c.2.1, c.2.2)) : Cur) = c from rfl, e1, andO_of]
  exact ⟨c1, q, rfl, hc1, hq⟩
 | succ d ih =>
  intro k i c p s hc hp h hk s0 s1
  have hi : i < p.length := by omega
  have hpl := hp.1
  have hat := hp.at hi
  have hw : IntKind.i64.wrap ((i : Int) + 1) = ((i + 1 : Nat) : Int) := by rw [w64 (by omega) (by omega)]; omega
  have hw2 : IntKind.i64.wrap (s + 1) = s + 1 := w64 (by omega) (by omega)
  have hi2 : ∀ y : Nd, i < (p.set i y).length := fun y => by rw [List.length_set]; exact hi
  rw [F35_l0_s _ (by omega), F35_l0_b]
  simp only [show (i : Int) < (p.length : Int) by omega, decide_true, cond_true, gd_true (inR hi), Int.toNat_natCast, getD_at hi, gd_true hi, gd_true (inR (hi2 _)), gd_true (hi2 _), F35_j1, hw, hw2]
  have next : ∀ (c : Cur) (q : List Nd) (s : Int), CurOk c → Few L q → q.length = p.length → 0 ≤ s → s ≤ (i + 1 : Nat) → ∃ c' q', F35_l0 N (k - 1) c.1 c.2.1 c.2.2 q s ((i + 1 : Nat) : Int) = some (c', q') ∧ CurOk c' ∧ Few2 (L + 1) q' :=
   fun c q s hc hq hl h0 h1 => ih (k - 1) (i + 1) c q s hc hq (by omega) (by omega) h0 h1
  have pick : ∃ c1 b, F34 N (c.1, (c.2.1, c.2.2)) 3 = some (c1, b) ∧ CurOk c1 := l01Once_v N hc (n := 3) (by omega)
  obtain ⟨c1, b, e1, hc1⟩ := pick
  have hset : ∀ y : Nd, y.2.1 = p[i].2.1 → y.2.2.2.2.2.2 = p[i].2.2.2.2.2.2 → Few L (p.set i y) := fun y h1 h2 => hp.set i (by rw [h1, h2]; exact hat)
  have two : ∃ c' q', (andO (F34 N (c.1, (c.2.1, c.2.2)) 3) fun y => cond y.2 (F35_l0 N (k - 1) y.1.1 y.1.2.1 y.1.2.2 (p.set i (p[i].1, (p[i].2.1, (p[i].2.2.1, (p[i].2.2.2.1, (s, (true, p[i].2.2.2.2.2.2))))))) (s + 1) ((i + 1 : Nat) : Int)) (F35_l0 N (k - 1) y.1.1 y.1.2.1 y.1.2.2 p s ((i + 1 : Nat) : Int))) = some (c', q') ∧ CurOk c' ∧ Few2 (L + 1) q' := by
   rw [e1, andO_of]
   cases b with
   | true => exact next c1 _ _ hc1 (hset _ rfl rfl) (by rw [List.length_set]) (by omega) (by omega)
   | false => exact next c1 _ _ hc1 hp rfl s0 (by omega)
  have one : ∃ c' q', F35_l0 N (k - 1) c.1 c.2.1 c.2.2 p s ((i + 1 : Nat) : Int) = some (c', q') ∧ CurOk c' ∧ Few2 (L + 1) q' := next c p s hc hp rfl s0 (by omega)
  cases (p[i].1 == 1) with
  | true =>
   rw [cond_true]
   cases (p[i].2.2.2.1 != 3) with
   | true => exact two
   | false =>
    rw [cond_false]
    cases (p[i].1 == 6) with
    | true => exact two
    | false => exact one
  | false =>
   rw [cond_false]
   cases (p[i].1 == 6) with
   | true => exact two
   | false => exact one
theorem slotted_v {N : Nat} (hN : 1048576 < N) {a : List Int} (hs : a.length ≤ 2000000) {c : Cur} (hc : CurOk c) : ∃ c' q, F35 N c a = some (c', q) ∧ CurOk c' ∧ Few2 65537 q := by
 unfold F35
 obtain ⟨c1, p, e1, hc1, hp⟩ := deep_v hN hs hc
 have hpl := hp.1
 rw [e1, andO_of]
 exact slotted_l N hN 65536 (Nat.le_refl _) p.length N 0 c1 p 0 hc1 hp (by omega) (by omega) (by omega) (by omega)
theorem loose_l (N : Nat) (hN : 1048576 < N) (n : Int) : ∀ (d k i : Nat) (c : Cur) (p : List Nd), CurOk c → Few (i + 1) p → p.length = i → n = ((i + d : Nat) : Int) → i + d ≤ 1000 → d < k →
  ∃ c' q, F36_l0 N k p n (i : Int) c.1 c.2.1 c.2.2 = some (c', q) ∧ CurOk c' ∧ Few2 65537 q := by
 have hlim := lim_nd
 intro d
 induction d with
 | zero =>
  intro k i c p hc hp hl hn h1 hk
  rw [F36_l0_s _ (by omega), F36_l0_b]
  simp only [show ¬ (i : Int) < n by omega, decide_false, cond_false, F36_j1, F36_j0]
  rw [gd_true (by show _ ≤ lim ndT; simp; omega)]
  exact ⟨c, _, rfl, hc, (hp.append (Few.one ⟨by decide, by simp⟩)).two (by omega)⟩
 | succ d ih =>
  intro k i c p hc hp hl hn h1 hk
  rw [F36_l0_s _ (by omega), F36_l0_b]
  simp only [show (i : Int) < n by omega, decide_true, cond_true]
  rw [gd_true (by show _ ≤ lim ndT; simp; omega), w64 (by omega) (by omega), show ((i : Int) + 1) = ((i + 1 : Nat) : Int) by omega]
  exact ih (k - 1) (i + 1) c _ hc ((hp.append (Few.one ⟨by simp, by simp⟩))) (by simp; omega) (by omega) (by omega) (by omega)
theorem loose_v {N : Nat} (hN : 1048576 < N) {a : List Int} (hs : a.length ≤ 2000000) {c : Cur} (hc : CurOk c) : ∃ c' q, F36 N c a = some (c', q) ∧ CurOk c' ∧ Few2 65537 q := by
 unfold F36
 obtain ⟨c1, p, e1, hc1, hp⟩ := deep_v hN hs hc
 obtain ⟨c2, q, e2, hc2, hq⟩ := break_v hN hc1 hp (Nat.le_refl _)
 obtain ⟨c3, b, e3, hc3⟩ := l01Once_v N hc2 (n := 30) (by omega)
 rw [e1, andO_of, e2, andO_of, e3, andO_of]
 cases b with
 | true =>
  obtain ⟨c4, x, e4, hc4, x0, x1, _⟩ := l01Below_v N hc3 (n := 2) (by omega)
  have x1 := x1 (by omega)
  rw [cond_true, e4, andO_of, w64 (x := 9 + x) (by omega) (by omega)]
  exact loose_l N hN (9 + x) (9 + x.toNat) N 0 c4 [] hc4 ⟨by simp, by simp⟩ rfl (by omega) (by omega) (by omega)
 | false => exact ⟨c3, q, rfl, hc3, hq⟩
theorem drawLift_v {N : Nat} (hN : 2000000 < N) {a : List Int} (hs : a.length ≤ 2000000) : ∃ q, F6 N a = some q ∧ Fits q := by
 unfold F6
 obtain ⟨c, e1, hc⟩ := l01New_v hs hN
 obtain ⟨c1, b, e2, hc1⟩ := l01Once_v N hc (n := 4) (by omega)
 rw [e1, andO_of, e2, andO_of]
 cases b with
 | true =>
  obtain ⟨c2, q, e3, _, hq⟩ := slotted_v (N := N) (by omega) hs hc1
  rw [cond_true, e3, andO_of]
  exact ⟨q, rfl, hq.fits (by omega)⟩
 | false =>
  obtain ⟨c2, q, e3, _, hq⟩ := loose_v (N := N) (by omega) hs hc1
  rw [cond_false, e3, andO_of]
  exact ⟨q, rfl, hq.fits (by omega)⟩
theorem drawRen_l (N : Nat) (hN : 2000000 < N) : ∀ (d k i : Nat) (c : Cur) (p : List Nd), CurOk c → Few2 65537 p → i + d = p.length → d < k →
  ∃ q, F19_l0 N k c.1 c.2.1 c.2.2 p (i : Int) = some q ∧ Few2 65537 q := by
 intro d
 induction d with
 | zero =>
  intro k i c p hc hp h hk
  rw [F19_l0_s _ (by omega), F19_l0_b]
  simp only [show ¬ (i : Int) < (p.length : Int) by omega, decide_false, cond_false, F19_j0]
  exact ⟨p, rfl, hp⟩
 | succ d ih =>
  intro k i c p hc hp h hk
  have hi : i < p.length := by omega
  have hpl := hp.1
  have hat := hp.2 _ (List.getElem_mem hi)
  have hw : IntKind.i64.wrap ((i : Int) + 1) = ((i + 1 : Nat) : Int) := by rw [w64 (by omega) (by omega)]; omega
  rw [F19_l0_s _ (by omega), F19_l0_b]
  simp only [show (i : Int) < (p.length : Int) by omega, decide_true, cond_true, gd_true (inR hi), Int.toNat_natCast, getD_at hi, gd_true hi, F19_j1, hw]
  cases p[i].2.2.2.2.2.1 with
  | false => exact ih (k - 1) (i + 1) c p hc hp (by omega) (by omega)
  | true =>
   obtain ⟨c1, b, e1, hc1⟩ := l01Once_v N hc (n := 2) (by omega)
   rw [cond_true, show ((c.1, (c.2.1, c.2.2)) : Cur) = c from rfl, e1, andO_of]
   cases b with
   | false => exact ih (k - 1) (i + 1) c1 p hc1 hp (by omega) (by omega)
   | true =>
    obtain ⟨c2, x, e2, hc2, _⟩ := l01Below_v N hc1 (n := 6) (by omega)
    rw [cond_true, e2, andO_of]
    exact ih (k - 1) (i + 1) c2 _ hc2 (hp.set i hat) (by rw [List.length_set]; omega) (by omega)
theorem drawRen_v {N : Nat} (hN : 2000000 < N) {a : List Int} (hs : a.length ≤ 2000000) : ∃ q, F19 N a = some q ∧ Fits q := by
 unfold F19
 obtain ⟨c, e1, hc⟩ := l01New_v hs hN
 obtain ⟨c2, p, e3, hc2, hp⟩ := slotted_v (N := N) (by omega) hs hc
 have hpl := hp.1
 rw [e1, andO_of, e3, andO_of]
 obtain ⟨q, e4, hq⟩ := drawRen_l N hN p.length N 0 c2 p hc2 hp (by omega) (by omega)
 exact ⟨q, e4, hq.fits (by omega)⟩
end Go.Proofs.YtmkhmpcealeidaaGreat.Vc
namespace Go.Proofs.YtmkhmpcealeidaaGreat.Vc
open Go Go.RowKit
set_option linter.unusedVariables false
set_option linter.unusedSimpArgs false
def liftR : List Nd → Nat → List Nd
 | [], _ => []
 | x :: l, k => cond (litB x) (slotN x k :: liftR l (k + 1)) (x :: liftR l k)
def litV : List Nd → List Int
 | [] => []
 | x :: l => cond (litB x) (x.2.2.2.2.1 :: litV l) (litV l)
theorem mid_getD (u : List Nd) (x : Nd) (l : List Nd) : (u ++ x :: l).getD u.length dN = x := by simp
theorem mid_set (u : List Nd) (x y : Nd) (l : List Nd) : (u ++ x :: l).set u.length y = (u ++ [y]) ++ l := by simp
theorem liftL_is : ∀ (r u : List Nd) (v : List Int), liftL r.length u.length (u ++ r) v = (u ++ liftR r v.length, v ++ litV r, true)
 | [], u, v => by simp [liftL, liftR, litV]
 | x :: r, u, v => by
  rw [List.length_cons, liftL, mid_getD, liftR, litV]
  cases litB x with
  | false =>
   have h := liftL_is r (u ++ [x]) v
   rw [List.length_append, List.length_singleton, List.append_assoc, List.singleton_append] at h
   simp only [cond_false]
   rw [h, List.append_assoc, List.singleton_append]
  | true =>
   have h := liftL_is r (u ++ [slotN x v.length]) (v ++ [x.2.2.2.2.1])
   rw [List.length_append, List.length_singleton] at h
   simp only [cond_true]
   rw [mid_set, h, List.append_assoc, List.singleton_append, List.append_assoc, List.singleton_append, List.length_append, List.length_singleton]
theorem liftR_length : ∀ (r : List Nd) (k : Nat), (liftR r k).length = r.length
 | [], _ => rfl
 | x :: r, k => by
  rw [liftR]
  cases litB x with
  | false => simp only [cond_false, List.length_cons, liftR_length r k]
  | true => simp only [cond_true, List.length_cons, liftR_length r (k + 1)]
theorem litV_length : ∀ (r : List Nd), (litV r).length ≤ r.length
 | [] => Nat.le_refl _
 | x :: r => by
  have h := litV_length r
  rw [litV]
  cases litB x with
  | false => simp only [cond_false, List.length_cons]; omega
  | true => simp only [cond_true, List.length_cons]; omega
theorem liftR_at : ∀ (r : List Nd) (k i : Nat) (h : i < r.length), ∃ h2 : i < (liftR r k).length, (liftR r k)[i] = r[i] ∧ litB r[i] = false ∨ ∃ j : Nat, k ≤ j ∧ j < k + r.length ∧ (liftR r k)[i] = slotN r[i] j ∧ litB r[i] = true
 | [], _, _, h => absurd h (by simp)
 | x :: r, k, i, h => by
  refine ⟨by rw [liftR_length]; exact h, ?_⟩
  cases hl : litB x with
  | false =>
   have he : liftR (x :: r) k = x :: liftR r k := by rw [liftR, hl, cond_false]
   simp only [he]
   cases i with
   | zero => exact .inl ⟨rfl, hl⟩
   | succ i =>
    obtain ⟨h2, h3⟩ := liftR_at r k i (by simpa using h)
    rcases h3 with h3 | ⟨j, j1, j2, j3⟩
    ·exact .inl h3
    ·exact .inr ⟨j, j1, by simp only [List.length_cons]; omega, j3⟩
  | true =>
   have he : liftR (x :: r) k = slotN x k :: liftR r (k + 1) := by rw [liftR, hl, cond_true]
   simp only [he]
   cases i with
   | zero => exact .inr ⟨k, Nat.le_refl _, by simp only [List.length_cons]; omega, rfl, hl⟩
   | succ i =>
    obtain ⟨h2, h3⟩ := liftR_at r (k + 1) i (by simpa using h)
    rcases h3 with h3 | ⟨j, j1, j2, j3⟩
    ·exact .inl h3
    ·exact .inr ⟨j, by omega, by simp only [List.length_cons]; omega, j3⟩
theorem liftR_slots : ∀ (r : List Nd) (k : Nat), (∀ x ∈ r, x.2.2.2.2.2.1 = false) → ∀ y : Int, (∃ nd ∈ liftR r k, nd.2.2.2.2.2.1 = true ∧ nd.2.2.2.2.1 = y) ↔ (k : Int) ≤ y ∧ y < ((k + (litV r).length : Nat) : Int)
 | [], k, _, y => by simp [liftR, litV]
 | x :: r, k, hs, y => by
  have hx := hs x (by simp)
  have hr : ∀ z ∈ r, z.2.2.2.2.2.1 = false := fun z hz => hs z (by simp [hz])
  rw [liftR, litV]
  cases litB x with
  | false =>
   simp only [cond_false, List.mem_cons, exists_eq_or_imp, hx, Bool.false_eq_true, false_and, false_or]
   exact liftR_slots r k hr y
  | true =>
   have h := liftR_slots r (k + 1) hr y
   simp only [cond_true, List.mem_cons, exists_eq_or_imp, List.length_cons]
   rw [h]
   simp only [slotN, true_and]
   omega
def fillR (vals : List Int) : List Nd → Option (List Nd)
 | [] => some []
 | x :: r => cond x.2.2.2.2.2.1 (cond (decide (x.2.2.2.2.1 ≥ (vals.length : Int))) none ((fillR vals r).map (fillN x (vals.getD x.2.2.2.2.1.toNat 0) :: ·))) ((fillR vals r).map (x :: ·))
theorem fillL_is (vals : List Int) : ∀ (r u : List Nd), fillL vals r.length u.length (u ++ r) = (fillR vals r).map (u ++ ·)
 | [], u => by simp [fillL, fillR]
 | x :: r, u => by
  rw [List.length_cons, fillL, mid_getD, fillR]
  cases x.2.2.2.2.2.1 with
  | false =>
   have h := fillL_is vals r (u ++ [x])
   rw [List.length_append, List.length_singleton, List.append_assoc, List.singleton_append] at h
   simp only [cond_false]
   rw [h, Option.map_map]
   congr 1
   funext z
   simp
  | true =>
   cases decide (x.2.2.2.2.1 ≥ (vals.length : Int)) with
   | true => rfl
   | false =>
    have h := fillL_is vals r (u ++ [fillN x (vals.getD x.2.2.2.2.1.toNat 0)])
    rw [List.length_append, List.length_singleton] at h
    simp only [cond_false, cond_true]
    rw [mid_set, h, Option.map_map]
    congr 1
    funext z
    simp
theorem fill_lift : ∀ (r : List Nd) (pre : List Int), (∀ x ∈ r, x.2.2.2.2.2.1 = false) → fillR (pre ++ litV r) (liftR r pre.length) = some r
 | [], pre, _ => rfl
 | x :: r, pre, hs => by
  have hx := hs x (by simp)
  have hr : ∀ z ∈ r, z.2.2.2.2.2.1 = false := fun z hz => hs z (by simp [hz])
  rw [liftR, litV]
  cases litB x with
  | false =>
   simp only [cond_false]
   rw [fillR, hx, cond_false, fill_lift r pre hr]
   rfl
  | true =>
   have h := fill_lift r (pre ++ [x.2.2.2.2.1]) hr
   rw [List.append_assoc, List.singleton_append, List.length_append, List.length_singleton] at h
   simp only [cond_true]
   rw [fillR, h]
   have h1 : ¬ ((pre.length : Int) ≥ ((pre ++ x.2.2.2.2.1 :: litV r).length : Int)) := by simp; omega
   have h2 : (pre ++ x.2.2.2.2.1 :: litV r).getD pre.length 0 = x.2.2.2.2.1 := by simp
   show cond (decide ((pre.length : Int) ≥ ((pre ++ x.2.2.2.2.1 :: litV r).length : Int))) none (some (fillN (slotN x pre.length) ((pre ++ x.2.2.2.2.1 :: litV r).getD (Int.toNat (pre.length : Int)) 0) :: r)) = _
   rw [decide_eq_false h1, cond_false, Int.toNat_natCast, h2]
   congr 2
   obtain ⟨a, b, c, d, e, f, g⟩ := x
   simp only at hx
   subst hx
   rfl
theorem litBM_is (x : Nd) : litBM x = litB x := rfl
theorem lits_lift : ∀ (r : List Nd) (out : List Int), (∀ x ∈ r, x.2.2.2.2.2.1 = false) → r.foldl litsF out = out ++ litV r
 | [], out, _ => by simp [litV]
 | x :: r, out, hs => by
  have hx := hs x (by simp)
  have hr : ∀ z ∈ r, z.2.2.2.2.2.1 = false := fun z hz => hs z (by simp [hz])
  rw [List.foldl_cons, lits_lift r _ hr, litV]
  unfold litsF
  rw [hx, litBM_is]
  cases litB x <;> simp
def renR : List Nd → List Int → List Nd
 | [], _ => []
 | x :: r, s => cond x.2.2.2.2.2.1 (numN x (idx x.2.2.2.2.1 (seenN s x.2.2.2.2.1)) :: renR r (seenN s x.2.2.2.2.1)) (x :: renR r s)
def seenR : List Nd → List Int → List Int
 | [], s => s
 | x :: r, s => cond x.2.2.2.2.2.1 (seenR r (seenN s x.2.2.2.2.1)) (seenR r s)
theorem renL_is : ∀ (r u : List Nd) (s : List Int), renL r.length u.length (u ++ r) s = u ++ renR r s
 | [], u, s => by simp [renL, renR]
 | x :: r, u, s => by
  rw [List.length_cons, renL, mid_getD, renR]
  cases x.2.2.2.2.2.1 with
  | false =>
   have h := renL_is r (u ++ [x]) s
   rw [List.length_append, List.length_singleton, List.append_assoc, List.singleton_append] at h
   simp only [cond_false]
   rw [h, List.append_assoc, List.singleton_append]
  | true =>
   have h := renL_is r (u ++ [numN x (idx x.2.2.2.2.1 (seenN s x.2.2.2.2.1))]) (seenN s x.2.2.2.2.1)
   rw [List.length_append, List.length_singleton] at h
   simp only [cond_true]
   rw [mid_set, h, List.append_assoc, List.singleton_append]
theorem renR_length : ∀ (r : List Nd) (s : List Int), (renR r s).length = r.length
 | [], _ => rfl
 | x :: r, s => by
  rw [renR]
  cases x.2.2.2.2.2.1 with
  | false => simp only [cond_false, List.length_cons, renR_length r s]
  | true => simp only [cond_true, List.length_cons, renR_length r _]
theorem idx_seen (s : List Int) (v : Int) : (v ∈ s ∧ seenN s v = s ∧ 0 ≤ idx v s ∧ idx v s < s.length) ∨ (v ∉ s ∧ seenN s v = s ++ [v] ∧ idx v (s ++ [v]) = (s.length : Int)) := by
 by_cases hm : v ∈ s
 ·refine .inl ⟨hm, by simp [seenN, hm], ?_⟩
  rcases idxF_lt v s 0 with h1 | ⟨j, h1, h2, _⟩
  ·exact absurd hm (idxF_none.1 h1)
  ·show 0 ≤ idxF v s 0 ∧ idxF v s 0 < _
   omega
 ·refine .inr ⟨hm, by simp [seenN, hm], ?_⟩
  have := idxF_append v s 0 hm
  simpa using this
theorem renR_at : ∀ (r : List Nd) (s : List Int) (i : Nat) (h : i < r.length), ∃ h2 : i < (renR r s).length, (renR r s)[i] = r[i] ∨ ∃ j : Int, 0 ≤ j ∧ j < s.length + r.length ∧ (renR r s)[i] = numN r[i] j ∧ r[i].2.2.2.2.2.1 = true
 | [], _, _, h => absurd h (by simp)
 | x :: r, s, i, h => by
  refine ⟨by rw [renR_length]; exact h, ?_⟩
  cases hl : x.2.2.2.2.2.1 with
  | false =>
   have he : renR (x :: r) s = x :: renR r s := by rw [renR, hl, cond_false]
   simp only [he]
   cases i with
   | zero => exact .inl rfl
   | succ i =>
    obtain ⟨h2, h3⟩ := renR_at r s i (by simpa using h)
    rcases h3 with h3 | ⟨j, j1, j2, j3⟩
    ·exact .inl h3
    ·exact .inr ⟨j, j1, by simp only [List.length_cons]; omega, j3⟩
  | true =>
   have he : renR (x :: r) s = numN x (idx x.2.2.2.2.1 (seenN s x.2.2.2.2.1)) :: renR r (seenN s x.2.2.2.2.1) := by rw [renR, hl, cond_true]
   have hlen := seenN_len s x.2.2.2.2.1
   simp only [he]
   cases i with
   | zero =>
    refine .inr ⟨_, ?_, ?_, rfl, hl⟩
    ·rcases idx_seen s x.2.2.2.2.1 with ⟨h1, h2, h3, h4⟩ | ⟨h1, h2, h3⟩
     ·rw [h2]; exact h3
     ·rw [h2, h3]; omega
    ·rcases idx_seen s x.2.2.2.2.1 with ⟨h1, h2, h3, h4⟩ | ⟨h1, h2, h3⟩
     ·rw [h2]; simp only [List.length_cons]; omega
     ·rw [h2, h3]; simp only [List.length_cons]; omega
   | succ i =>
    obtain ⟨h2, h3⟩ := renR_at r (seenN s x.2.2.2.2.1) i (by simpa using h)
    rcases h3 with h3 | ⟨j, j1, j2, j3⟩
    ·exact .inl h3
    ·exact .inr ⟨j, by omega, by simp only [List.length_cons]; omega, j3⟩
theorem renR_slots : ∀ (r : List Nd) (s : List Int) (y : Int), ((∃ nd ∈ renR r s, nd.2.2.2.2.2.1 = true ∧ nd.2.2.2.2.1 = y) ∨ (0 ≤ y ∧ y < (s.length : Int))) ↔ 0 ≤ y ∧ y < ((seenR r s).length : Int)
 | [], s, y => by simp [renR, seenR]
 | x :: r, s, y => by
  rw [renR, seenR]
  cases hl : x.2.2.2.2.2.1 with
  | false =>
   simp only [cond_false, List.mem_cons, exists_eq_or_imp, hl, Bool.false_eq_true, false_and, false_or]
   exact renR_slots r s y
  | true =>
   have h := renR_slots r (seenN s x.2.2.2.2.1) y
   simp only [cond_true, List.mem_cons, exists_eq_or_imp]
   rw [← h]
   simp only [numN, hl, true_and]
   rcases idx_seen s x.2.2.2.2.1 with ⟨h1, h2, h3, h4⟩ | ⟨h1, h2, h3⟩
   ·rw [h2]
    constructor
    ·rintro ((h5 | h5) | h5)
     ·exact .inr (by omega)
     ·exact .inl h5
     ·exact .inr h5
    ·rintro (h5 | h5)
     ·exact .inl (.inr h5)
     ·exact .inr h5
   ·rw [h2, h3, List.length_append, List.length_singleton]
    constructor
    ·rintro ((h5 | h5) | h5)
     ·exact .inr (by omega)
     ·exact .inl h5
     ·exact .inr (by omega)
    ·rintro (h5 | h5)
     ·exact .inl (.inr h5)
     ·by_cases h6 : y < (s.length : Int)
      ·exact .inr (by omega)
      ·exact .inl (.inl (by omega))
theorem seenR_mem : ∀ (r : List Nd) (s : List Int) (y : Int), y ∈ seenR r s ↔ y ∈ s ∨ ∃ nd ∈ r, nd.2.2.2.2.2.1 = true ∧ nd.2.2.2.2.1 = y
 | [], s, y => by simp [seenR]
 | x :: r, s, y => by
  rw [seenR]
  cases hl : x.2.2.2.2.2.1 with
  | false =>
   simp only [cond_false, List.mem_cons, exists_eq_or_imp, hl, Bool.false_eq_true, false_and, false_or]
   exact seenR_mem r s y
  | true =>
   simp only [cond_true, List.mem_cons, exists_eq_or_imp, hl, true_and]
   rw [seenR_mem r _ y]
   rcases idx_seen s x.2.2.2.2.1 with ⟨h1, h2, _⟩ | ⟨h1, h2, _⟩
   ·rw [h2]
    constructor
    ·rintro (h5 | h5)
     ·exact .inl h5
     ·exact .inr (.inr h5)
    ·rintro (h5 | h5 | h5)
     ·exact .inl h5
     ·exact .inl (h5 ▸ h1)
     ·exact .inr h5
   ·rw [h2, List.mem_append, List.mem_singleton, or_assoc]
    constructor
    ·rintro (h5 | h5 | h5)
     ·exact .inl h5
     ·exact .inr (.inl h5.symm)
     ·exact .inr (.inr h5)
    ·rintro (h5 | h5 | h5)
     ·exact .inl h5
     ·exact .inr (.inl h5.symm)
     ·exact .inr (.inr h5)
theorem seenR_nodup : ∀ (r : List Nd) (s : List Int), s.Nodup → (seenR r s).Nodup
 | [], s, h => h
 | x :: r, s, h => by
  rw [seenR]
  cases x.2.2.2.2.2.1 with
  | false => exact seenR_nodup r s h
  | true =>
   refine seenR_nodup r _ ?_
   unfold seenN
   split
   ·exact h
   ·rename_i hm
    rw [List.nodup_append]
    exact ⟨h, by simp, fun a ha b hb => by simp at hb; subst hb; exact fun e => hm (e ▸ ha)⟩
def upto (m : Nat) : List Int := (List.range m).map Int.ofNat
theorem upto_length (m : Nat) : (upto m).length = m := by simp [upto]
theorem upto_at {m i : Nat} (h : i < (upto m).length) : (upto m)[i] = (i : Int) := by simp [upto]
theorem upto_is {l : List Int} {m : Nat} (hp : l.Pairwise (· < ·)) (hm : ∀ y, y ∈ l ↔ 0 ≤ y ∧ y < (m : Int)) : l = upto m := by
 refine incr_ext hp ?_ fun y => ?_
 ·unfold upto
  rw [List.pairwise_map]
  exact List.pairwise_lt_range.imp (fun h => Int.ofNat_lt.2 h)
 ·rw [hm]
  simp only [upto, List.mem_map, List.mem_range]
  constructor
  ·intro h; exact ⟨y.toNat, by omega, by simp; omega⟩
  ·rintro ⟨j, h, rfl⟩; simp; omega
theorem same_length {a b : List Int} (ha : a.Nodup) (hb : b.Nodup) (h : ∀ y, y ∈ a ↔ y ∈ b) : a.length = b.length :=
 ((List.perm_ext_iff_of_nodup ha hb).2 h).length_eq
theorem pw_nodup {a : List Int} (h : a.Pairwise (· < ·)) : a.Nodup := h.imp (fun h => by omega)
theorem slotN_ok {x : Nd} {k : Int} (h : nodeB x = true) (hl : litB x = true) (h0 : 0 ≤ k) (h1 : k ≤ 39) : nodeB (slotN x k) = true := by
 obtain ⟨kind, name, col, op, num, slot, cols⟩ := x
 simp only [litB, nodeB, slotN] at *
 by_cases k1 : kind = 1
 ·subst k1
  simp only [show ((1 : Int) == 0) = false from rfl, show ((1 : Int) == 1) = true from rfl, cond_true, cond_false] at hl h ⊢
  by_cases o3 : op = 3
  ·subst o3; simp at hl
  ·have ho : (op == 3) = false := by simpa using o3
   rw [ho] at h ⊢
   simp only [cond_false, cond_true, Bool.and_eq_true] at h ⊢
   exact ⟨h.1, decide_eq_true ⟨h0, h1⟩⟩
 ·have e1 : (kind == 1) = false := by simpa using k1
  rw [e1] at hl h ⊢
  simp only [cond_false] at hl
  have k6 : kind = 6 := by simpa using hl
  subst k6
  simp only [show ((6 : Int) == 0) = false from rfl, show ((6 : Int) == 2) = false from rfl, show ((6 : Int) == 3) = false from rfl, show ((6 : Int) == 5) = false from rfl, show ((6 : Int) == 6) = true from rfl, cond_true, cond_false, Bool.not_true, Bool.false_or, Bool.and_eq_true] at h ⊢
  exact ⟨⟨⟨⟨h.1.1.1.1, decide_eq_true ⟨h0, by omega⟩⟩, decide_eq_true ⟨h0, h1⟩⟩, h.1.2⟩, h.2⟩
theorem numN_ok {x : Nd} {k : Int} (h : nodeB x = true) (hs : x.2.2.2.2.2.1 = true) (h0 : 0 ≤ k) (h1 : k ≤ 39) : nodeB (numN x k) = true := by
 obtain ⟨kind, name, col, op, num, slot, cols⟩ := x
 simp only at hs
 subst hs
 simp only [nodeB, numN, Bool.not_true, Bool.and_false, Bool.false_and] at *
 generalize (kind == 0) = q0 at h ⊢
 generalize (kind == 1) = q1 at h ⊢
 generalize (kind == 2) = q2 at h ⊢
 generalize (kind == 3) = q3 at h ⊢
 generalize (kind == 5) = q5 at h ⊢
 generalize (kind == 6) = q6 at h ⊢
 cases q0 <;> simp only [cond_true, cond_false] at h ⊢
 ·cases q1 <;> simp only [cond_true, cond_false] at h ⊢
  ·cases q2 <;> simp only [cond_true, cond_false] at h ⊢
   ·cases q3 <;> simp only [cond_true, cond_false] at h ⊢
    ·cases q5 <;> simp only [cond_true, cond_false] at h ⊢
     ·cases q6 <;> simp only [cond_true, cond_false] at h ⊢
      ·simp at h
      ·simp only [Bool.false_or, Bool.and_eq_true] at h ⊢
       exact ⟨⟨⟨⟨h.1.1.1.1, decide_eq_true ⟨h0, by omega⟩⟩, decide_eq_true ⟨h0, h1⟩⟩, h.1.2⟩, h.2⟩
     ·simp at h
    ·simp at h
   ·simp at h
  ·generalize (op == 3) = o3 at h ⊢
   cases o3
   ·simp only [cond_false, cond_true, Bool.and_eq_true] at h ⊢
    exact ⟨h.1, decide_eq_true ⟨h0, h1⟩⟩
   ·simp at h
 ·simp at h
theorem sameB_self (x : Nd) : sameB x x = true := by simp [sameB]
theorem kind_at {p q : List Nd} (h : p.map (·.1) = q.map (·.1)) (i : Nat) (d : Nd) : (p.getD i d).1 = (q.getD i d).1 := by
 have h2 : (p.map (·.1))[i]? = (q.map (·.1))[i]? := by rw [h]
 rw [List.getElem?_map, List.getElem?_map] at h2
 rw [List.getD_eq_getElem?_getD, List.getD_eq_getElem?_getD]
 cases hp : p[i]? <;> cases hq : q[i]? <;> rw [hp, hq] at h2 <;> simp at h2 ⊢
 exact h2
theorem end_loop (N : Nat) (p q : List Nd) (a2 : Int) (s1 s2 : List Nd → Int → Int → Option Int) (hs : ∀ x a, s1 p x a = s2 q x a) (y : Int) : ∀ (n : Nat) (x t : Int), F83_l0 N p a2 s1 y n x t = F83_l0 N q a2 s2 y n x t := by
 intro n
 induction n with
 | zero => intro x t; rfl
 | succ n ih =>
  intro x t
  rw [F83_l0_s _ _ _ _ _ (by omega), F83_l0_s _ _ _ _ _ (by omega), F83_l0_b, F83_l0_b, hs, show n + 1 - 1 = n from rfl]
  congr 1
  congr 1
  funext z
  rw [ih]
theorem end_like (N : Nat) (p q : List Nd) (h : p.map (·.1) = q.map (·.1)) : ∀ (k : Nat) (x a : Int), F83_r N k p x a = F83_r N k q x a := by
 have hl : p.length = q.length := by have := congrArg List.length h; simpa using this
 intro k
 induction k with
 | zero => intro x a; rfl
 | succ k ih =>
  intro x a
  rw [F83_s _ (by omega), F83_s _ (by omega), F83_b, F83_b, kind_at h, hl, show k + 1 - 1 = k from rfl]
  congr 1
  congr 1
  congr 1
  congr 1
  funext z
  exact end_loop N p q a _ _ ih z N _ _
theorem planOk_x {N : Nat} {p : List Nd} (hf : Fits p) (hN : 1048576 < N) : ∃ e, F83 N p (0 : Int) (1 : Int) = some e ∧ F44 N p = some (decide ((1 : Int) ≤ (p.length : Int) ∧ (p.length : Int) ≤ 40) && (p.all nodeB && (e == (p.length : Int)))) := by
 have hs := hf.1
 obtain ⟨e, d, e1, e2, e3, e4, e5⟩ := ends N p hs (by omega) 10 N N 0 (by omega) (by omega) (by omega) (by omega)
 have e1' : F83 N p (0 : Int) (1 : Int) = some e := e1
 refine ⟨e, e1', ?_⟩
 unfold F44
 rw [in_v, andO_of, contFuncN_v (q := fun x => !nodeB x) (fun x hx => iPlanOk1_v hN (hf.2 x hx)) (by omega) (by omega), andO_of, e1', andO_of]
 have hany : (p.any fun x => !nodeB x) = !(p.all nodeB) := by
  rw [List.not_all_eq_any_not]
 rw [hany]
 cases decide ((1 : Int) ≤ (p.length : Int) ∧ (p.length : Int) ≤ 40) with
 | false => rfl
 | true => cases p.all nodeB <;> rfl
theorem planOk_like {N : Nat} {p q : List Nd} (hf : Fits p) (hg : Fits q) (hN : 1048576 < N) (h : p.map (·.1) = q.map (·.1)) (hp : F44 N p = some true) (hq : ∀ x ∈ q, nodeB x = true) : F44 N q = some true := by
 obtain ⟨e, h1, h2⟩ := planOk_x hf hN
 obtain ⟨e', g1, g2⟩ := planOk_x hg hN
 have hl : p.length = q.length := by have := congrArg List.length h; simpa using this
 have he : e = e' := by
  have h3 : F83 N p (0 : Int) (1 : Int) = F83 N q (0 : Int) (1 : Int) := end_like N p q h N 0 1
  rw [h1, g1] at h3
  exact Option.some.inj h3
 rw [h2] at hp
 have hp := Option.some.inj hp
 rw [g2, List.all_eq_true.2 hq, ← hl, ← he]
 simp only [Bool.and_eq_true, Bool.true_and] at hp ⊢
 rw [hp.1, hp.2.2]
 rfl
theorem samePlanR_l (N : Nat) (a : List Nd) (hs : a.length ≤ 1048576) (hc : ∀ x ∈ a, x.2.2.2.2.2.2.length ≤ 1048576) (hN : 1048576 < N) : ∀ (d k i : Nat), i + d = a.length → d < k →
  F42_l0 N a a (fun z0 z1 => F43 N z0 z1) k (a.length : Int) (i : Int) = some true := by
 intro d
 induction d with
 | zero =>
  intro k i h hk
  rw [F42_l0_s _ _ _ _ (by omega), F42_l0_b]
  simp only [show ¬ (i : Int) < (a.length : Int) by omega, decide_false, cond_false, F42_j0]
 | succ d ih =>
  intro k i h hk
  have hi : i < a.length := by omega
  have hm := hc _ (List.getElem_mem hi)
  rw [F42_l0_s _ _ _ _ (by omega), F42_l0_b]
  simp only [show (i : Int) < (a.length : Int) by omega, decide_true, cond_true, gd_true (inR hi), Int.toNat_natCast, getD_at hi, sameNode_v (N := N) (a := a[i]) (b := a[i]) (by omega) (by omega), andO_of, sameB_self]
  rw [w64 (by omega) (by omega), show ((i : Int) + 1) = ((i + 1 : Nat) : Int) by omega]
  exact ih (k - 1) (i + 1) (by omega) (by omega)
theorem samePlan_r {N : Nat} {a : List Nd} (hf : Fits a) (hN : 1048576 < N) : F9 N a a = some true := by
 unfold F9 F42
 have h1 := samePlanR_l N a hf.1 (fun x hx => (hf.2 x hx).2) hN a.length N 0 (by omega) (by have := hf.1; omega)
 rw [show (((0 : Nat)) : Int) = 0 from rfl] at h1
 rw [h1]
 simp only [bne_self_eq_false, cond_false, andO_of]
theorem slots_x {N : Nat} {p : List Nd} (hf : Fits p) (hN : 1048576 < N) (hp : F44 N p = some true) : ∃ l : List Int, F13 N p = some l ∧ l.length ≤ 1048576 ∧ l.Pairwise (· < ·) ∧ ∀ y, y ∈ l ↔ ∃ nd ∈ p, nd.2.2.2.2.2.1 = true ∧ nd.2.2.2.2.1 = y := by
 obtain ⟨b, h1, h2, h3⟩ := planOk_v hf hN
 obtain rfl : b = true := by rw [h1] at hp; exact Option.some.inj hp
 obtain ⟨r, g1, g2, g3⟩ := slots_v hf hN
 rw [slotsOf_v hf hN h2 (fun e => (h3 e).1)] at g2
 have hr := Option.some.inj g2
 rw [cond_true] at hr
 subst hr
 refine ⟨_, g1, g3, slotsS_pw p 40 0 [] .nil (by simp), fun y => ?_⟩
 rw [slotsS_mem]
 constructor
 ·rintro (h | ⟨x, hx, rfl, nd, hm, hs', hn⟩)
  ·simp at h
  ·exact ⟨nd, hm, hs', hn⟩
 ·rintro ⟨nd, hm, hs', hn⟩
  have := slot_num ((h3 rfl).2 nd hm) hs'
  exact .inr ⟨y.toNat, by rw [List.mem_range'_1]; omega, by omega, nd, hm, hs', by omega⟩
theorem closed_x {N : Nat} {p : List Nd} (hf : Fits p) (hN : 1048576 < N) : ∃ b, F44 N p = some b ∧ F11 N p = some (b && !(p.any fun x => x.2.2.2.2.2.1)) ∧ F37 N p = some (b && !(p.any fun x => x.2.2.2.2.2.1)) ∧ (b = true → p.length ≤ 40 ∧ ∀ x ∈ p, nodeB x = true) := by
 obtain ⟨b, h1, h2, h3⟩ := planOk_v hf hN
 obtain ⟨c, g1, g2, g3⟩ := closed_v hf hN
 have hs := hf.1
 have hh : F45 N p = some (p.any fun x => x.2.2.2.2.2.1) := by
  unfold F45
  rw [contFuncN_v (p := fun z0 => F84 N z0) (q := fun x => x.2.2.2.2.2.1) (fun x hx => rfl) (by omega) (by omega), andO_of]
 have hc : F11 N p = some (b && !(p.any fun x => x.2.2.2.2.2.1)) := by
  unfold F11
  rw [h1, hh, andO_of, andO_of]
  cases b <;> rfl
 refine ⟨b, h1, hc, ?_, h3⟩
 rw [hc] at g1
 rw [g2, Option.some.inj g1]
theorem lift_x {N : Nat} {p : List Nd} (hf : Fits p) (hN : 1048576 < N) : (F11 N p = some false ∧ F8 N p = some ([], [], false) ∧ F7 N p = some ([], [], false)) ∨
  (F11 N p = some true ∧ F44 N p = some true ∧ p.length ≤ 40 ∧ (∀ x ∈ p, nodeB x = true) ∧ (∀ x ∈ p, x.2.2.2.2.2.1 = false) ∧ F8 N p = some (liftR p 0, litV p, true) ∧ F7 N p = some (liftR p 0, litV p, true)) := by
 obtain ⟨b, h1, h2, h3, h4⟩ := closed_x hf hN
 have hs := hf.1
 cases hb : (b && !(p.any fun x => x.2.2.2.2.2.1)) with
 | false =>
  rw [hb] at h2 h3
  refine .inl ⟨h2, ?_, ?_⟩
  ·unfold F8
   rw [h2, andO_of]
   rfl
  ·unfold F7
   rw [h3, andO_of]
   rfl
 | true =>
  rw [hb] at h2 h3
  simp only [Bool.and_eq_true, Bool.not_eq_true'] at hb
  obtain ⟨rfl, hb2⟩ := hb
  obtain ⟨h40, hok⟩ := h4 rfl
  have e0 := liftL_is p [] []
  simp only [List.length_nil, List.nil_append] at e0
  refine .inr ⟨h2, h1, h40, hok, fun x hx => by have := List.any_eq_false.1 hb2 x hx; simpa using this, ?_, ?_⟩
  ·unfold F8
   rw [h2, andO_of, own_v hf hN, andO_of, ← e0]
   exact iLift_l N p.length (by omega) p.length N 0 p [] rfl (by omega) (by omega) (by simp)
  ·unfold F7
   rw [h3, andO_of, l02Copy_v hf hN, andO_of, ← e0]
   exact sLift_l N p.length (by omega) p.length N 0 p [] rfl (by omega) (by omega) (by simp)
theorem map_like {p q : List Nd} (hl : q.length = p.length) (h : ∀ i (h1 : i < p.length) (h2 : i < q.length), q[i].1 = p[i].1) : p.map (·.1) = q.map (·.1) := by
 apply List.ext_getElem
 ·simp [hl]
 ·intro i h1 h2
  simp only [List.length_map] at h1 h2
  simp only [List.getElem_map]
  exact (h i h1 h2).symm
theorem lifted_ok {N : Nat} {p : List Nd} (hf : Fits p) (hN : 1048576 < N) (hp : F44 N p = some true) (h40 : p.length ≤ 40) (hok : ∀ x ∈ p, nodeB x = true) : Fits (liftR p 0) ∧ F44 N (liftR p 0) = some true := by
 have hl := liftR_length p 0
 have hall : ∀ y ∈ liftR p 0, nodeB y = true ∧ (y.2.1.size ≤ 1048576 ∧ y.2.2.2.2.2.2.length ≤ 1048576) := by
  intro y hy
  obtain ⟨i, hi, rfl⟩ := List.getElem_of_mem hy
  have hi2 : i < p.length := by omega
  have hm := List.getElem_mem hi2
  obtain ⟨_, h2⟩ := liftR_at p 0 i hi2
  rcases h2 with ⟨h2, _⟩ | ⟨j, j1, j2, j3, j4⟩
  ·rw [h2]; exact ⟨hok _ hm, hf.2 _ hm⟩
  ·rw [j3]; exact ⟨slotN_ok (hok _ hm) j4 (by omega) (by omega), (hf.2 _ hm).1, (hf.2 _ hm).2⟩
 have hg : Fits (liftR p 0) := ⟨by have := hf.1; omega, fun y hy => (hall y hy).2⟩
 refine ⟨hg, planOk_like hf hg hN (map_like hl fun i h1 h2 => ?_) hp (fun y hy => (hall y hy).1)⟩
 obtain ⟨_, h2⟩ := liftR_at p 0 i h1
 rcases h2 with ⟨h2, _⟩ | ⟨j, j1, j2, j3, j4⟩
 ·rw [h2]
 ·rw [j3]; rfl
theorem renamed_ok {N : Nat} {p : List Nd} (hf : Fits p) (hN : 1048576 < N) (hp : F44 N p = some true) (h40 : p.length ≤ 40) (hok : ∀ x ∈ p, nodeB x = true) : Fits (renR p []) ∧ F44 N (renR p []) = some true := by
 have hl := renR_length p []
 have hall : ∀ y ∈ renR p [], nodeB y = true ∧ (y.2.1.size ≤ 1048576 ∧ y.2.2.2.2.2.2.length ≤ 1048576) := by
  intro y hy
  obtain ⟨i, hi, rfl⟩ := List.getElem_of_mem hy
  have hi2 : i < p.length := by omega
  have hm := List.getElem_mem hi2
  obtain ⟨_, h2⟩ := renR_at p [] i hi2
  rcases h2 with h2 | ⟨j, j1, j2, j3, j4⟩
  ·rw [h2]; exact ⟨hok _ hm, hf.2 _ hm⟩
  ·rw [j3]; exact ⟨numN_ok (hok _ hm) j4 (by omega) (by simp at j2; omega), (hf.2 _ hm).1, (hf.2 _ hm).2⟩
 have hg : Fits (renR p []) := ⟨by have := hf.1; omega, fun y hy => (hall y hy).2⟩
 refine ⟨hg, planOk_like hf hg hN (map_like hl fun i h1 h2 => ?_) hp (fun y hy => (hall y hy).1)⟩
 obtain ⟨_, h2⟩ := renR_at p [] i h1
 rcases h2 with h2 | ⟨j, j1, j2, j3, j4⟩
 ·rw [h2]
 ·rw [j3]; rfl
theorem fill_x {N : Nat} {p : List Nd} (hf : Fits p) (hN : 1048576 < N) (hp : F44 N p = some true) (hg : Fits (liftR p 0)) (ht : F44 N (liftR p 0) = some true) (h40 : p.length ≤ 40) (hns : ∀ x ∈ p, x.2.2.2.2.2.1 = false) : F12 N (liftR p 0) (litV p) = some (p, true) := by
 unfold F12
 have hl := liftR_length p 0
 have hsl : ∀ j, 0 ≤ j → ∀ h : j < (liftR p 0).length, (liftR p 0)[j].2.2.2.2.2.1 = true → 0 ≤ (liftR p 0)[j].2.2.2.2.1 := fun j _ h e =>
  ((liftR_slots p 0 hns _).1 ⟨_, List.getElem_mem h, e, rfl⟩).1
 have e1 := iFill_l N (liftR p 0).length (litV p) (by omega) (liftR p 0).length N 0 (liftR p 0) rfl (by omega) (by omega) hsl
 have e2 := fillL_is (litV p) (liftR p 0) []
 have e3 := fill_lift p [] hns
 simp only [List.length_nil, List.nil_append] at e2 e3
 rw [e3, Option.map_some] at e2
 rw [show (((0 : Nat)) : Int) = 0 from rfl, e2] at e1
 rw [ht, andO_of, own_v hg hN, andO_of, Bool.not_true, cond_false, e1]
 show F12_j0 N p = _
 unfold F12_j0
 rw [hp, andO_of]
 rfl
theorem ren_x {N : Nat} {p : List Nd} (hf : Fits p) (hN : 1048576 < N) : (F21 N p = some ([], false) ∧ F22 N p = some ([], false)) ∨
  (F44 N p = some true ∧ p.length ≤ 40 ∧ (∀ x ∈ p, nodeB x = true) ∧ F21 N p = some (renR p [], true) ∧ F22 N p = some (renR p [], true)) := by
 obtain ⟨b, h1, h2, h3⟩ := planOk_v hf hN
 have hs := hf.1
 unfold F21 F22
 rw [h1, h2, andO_of, andO_of]
 cases b with
 | false => exact .inl ⟨rfl, rfl⟩
 | true =>
  simp only [Bool.not_true, cond_false]
  have h40 := (h3 rfl).1
  rw [own_v hf hN, l02Copy_v hf hN, andO_of, andO_of]
  have e0 := renL_is p [] []
  simp only [List.length_nil, List.nil_append] at e0
  rw [← e0]
  exact .inr ⟨by first | rfl | trivial, h40, (h3 rfl).2, iRen_l N p.length (by omega) hN p.length N 0 p [] rfl (by omega) (by omega) (by simp), sRen_l N p (by omega) hN p.length N 0 p [] rfl (by omega) (by omega) (by simp) (by simp) (fun _ _ => rfl)⟩
theorem slotsOk_x {N : Nat} {p : List Nd} {n : Int} (hf : Fits p) (hN : 1048576 < N) (hp : F44 N p = some true) (h : ∀ x ∈ p, x.2.2.2.2.2.1 = true → x.2.2.2.2.1 < n) : F15 N p n = some true := by
 have hs := hf.1
 unfold F15
 rw [hp, andO_of]
 simp only [cond_true, Bool.not_true, cond_false]
 rw [contFuncN_v (q := fun x => x.2.2.2.2.2.1 && decide (x.2.2.2.2.1 ≥ n)) (fun x hx => by
  unfold F49
  cases x.2.2.2.2.2.1 <;> rfl) (by omega) (by omega), andO_of]
 have : (p.any fun x => x.2.2.2.2.2.1 && decide (x.2.2.2.2.1 ≥ n)) = false := by
  rw [List.any_eq_false]
  intro x hx
  simp only [Bool.and_eq_true, decide_eq_true_eq, not_and]
  intro h1
  have := h x hx h1
  omega
 rw [this]
 rfl
theorem slots_loop (N : Nat) (r : List Nd) (m : Nat) (l2 : List Int) (e : F13 N r = some l2) (h2 : l2.length = m) (hm : m ≤ 1048576) : ∀ (d k i : Nat), i + d = m → d < k → F3_l0 N r (upto m) k (i : Int) = some true := by
 intro d
 induction d with
 | zero =>
  intro k i h hk
  rw [F3_l0_s _ _ _ (by omega), F3_l0_b]
  simp only [upto_length, show ¬ (i : Int) < (m : Int) by omega, decide_false, cond_false, F3_j0]
  rw [e, andO_of, h2, beq_self_eq_true]
 | succ d ih =>
  intro k i h hk
  have hi : i < (upto m).length := by rw [upto_length]; omega
  rw [F3_l0_s _ _ _ (by omega), F3_l0_b]
  rw [decide_eq_true (show (i : Int) < ((upto m).length : Int) by omega), cond_true, gd_true (inR hi), Int.toNat_natCast, gd_true hi, getD_at hi, upto_at hi]
  simp only [bne_self_eq_false, cond_false]
  rw [w64 (by omega) (by omega), show ((i : Int) + 1) = ((i + 1 : Nat) : Int) by omega]
  exact ih (k - 1) (i + 1) (by omega) (by omega)
theorem sameTemplate_x {N : Nat} {p : List Nd} {v : List Int} (hN : 1048576 < N) (hl : F8 N p = some (liftR p 0, v, true)) (hg : Fits (liftR p 0)) : F16 N p p = some true := by
 unfold F16
 rw [hl]
 simp only [andO_of, samePlan_r hg hN, cond_true]
theorem lawFnSlots (a : List Int) (h : (Ty.sl (.int .u8)).wf a) : ∃ N, F3 N a = some true := by
 refine ⟨3000000, ?_⟩
 unfold F3 F5
 rw [andO_of]
 by_cases hl : (a.length : Int) > 1048576
 ·rw [decide_eq_true hl, cond_true]
 ·obtain ⟨p, e1, hf⟩ := drawLift_v (N := 3000000) (a := a) (by omega) (by omega)
  have hN : 1048576 < 3000000 := by omega
  have hnil : Fits [] := ⟨by simp, fun x hx => by cases hx⟩
  have s0 : F10 3000000 ([] : List Int) [] = some true := same_r (by simp) (by simp)
  rw [decide_eq_false hl, cond_false, e1, andO_of]
  rcases lift_x hf hN with ⟨c1, c2, c3⟩ | ⟨c1, c2, c3, c4, c5, c6, c7⟩
  ·simp only [c2, c3, andO_of, beq_self_eq_true, Bool.not_true, cond_false, samePlan_r hnil hN, s0, c1, Bool.not_false, cond_true]
  ·obtain ⟨hg, ht⟩ := lifted_ok hf hN c2 c3 c4
   have hvl := litV_length p
   have e2 := fill_x hf hN c2 hg ht c3 c5
   have s1 : F10 3000000 (litV p) (litV p) = some true := same_r (by omega) (by omega)
   obtain ⟨sl, f1, f2, f3, f4⟩ := slots_x hg hN ht
   have hsl : sl = upto (litV p).length := upto_is f3 fun y => by
    rw [f4, liftR_slots p 0 c5]
    simp
   have hlit : F14 3000000 p = some (litV p) := by
    unfold F14
    have := iLits_l 3000000 p hf.1 p.length 3000000 0 [] (by omega) (by omega) (by simp; have := hf.1; omega)
    rw [List.drop_zero, lits_lift p [] c5, List.nil_append] at this
    rw [c2, andO_of]
    exact this
   have hso : F15 3000000 (liftR p 0) ((litV p).length : Int) = some true := slotsOk_x hg hN ht fun x hx hs => by
    have := ((liftR_slots p 0 c5 x.2.2.2.2.1).1 ⟨x, hx, hs, rfl⟩).2
    simpa using this
   obtain ⟨pr, g1, g2⟩ := print_v (N := 3000000) hg hN
   obtain ⟨b2, h1, hb2⟩ := alt_v (N := 3000000) (a := a) (1 : Int) (by omega) (by omega)
   obtain ⟨r, h2, hr⟩ := drawRen_v (N := 3000000) (a := b2) (by omega) hb2
   have hsl2 : ((sl.length : Int) != ((litV p).length : Int)) = false := by rw [hsl, upto_length]; simp
   simp only [c6, c7, andO_of, beq_self_eq_true, Bool.not_true, cond_false, samePlan_r hg hN, s1, c1, e2, f1, samePlan_r hf hN, hsl2, hlit, hso, sameTemplate_x hN c6 hg, g1, g2, bne_self_eq_false, h1, h2]
   rcases ren_x hr hN with ⟨k1, k2⟩ | ⟨k0, k1, k2, k3, k4⟩
   ·simp only [k1, k2, andO_of, beq_self_eq_true, Bool.not_true, cond_false, samePlan_r hnil hN, Bool.not_false, cond_true]
   ·obtain ⟨hq, hqp⟩ := renamed_ok hr hN k0 k1 k2
    obtain ⟨l, m1, m2, m3, m4⟩ := slots_x hq hN hqp
    obtain ⟨l2, n1, n2, n3, n4⟩ := slots_x hr hN k0
    have hlu : l = upto (seenR r []).length := upto_is m3 fun y => by
     rw [m4, ← renR_slots r [] y]
     simp
     intro h1 h2
     omega
    have hlen : l2.length = (seenR r []).length := same_length (pw_nodup n3) (seenR_nodup r [] (by simp)) fun y => by
     rw [n4, seenR_mem]
     simp
    simp only [k3, k4, andO_of, beq_self_eq_true, Bool.not_true, cond_false, samePlan_r hq hN, m1]
    rw [hlu]
    exact slots_loop 3000000 r _ l2 n1 hlen (by omega) (seenR r []).length 3000000 0 (by omega) (by omega)
end Go.Proofs.YtmkhmpcealeidaaGreat.Vc
