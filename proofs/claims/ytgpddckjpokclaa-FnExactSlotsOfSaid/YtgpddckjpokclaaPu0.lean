/- Plain lemmas on the words in which it is told what functions compute. They speak of no program. -/
import Derived.Test.YtgpddckjpokclaaVc31
import Derived.Laws.BitsLemmas
namespace Go.Proofs.Ytgpddckjpokclaa.Vc
open Go Go.RowKit
set_option linter.unusedVariables false
set_option linter.unusedSimpArgs false

theorem andO_of {α β : Type} (a : α) (k : α → Option β) : andO (some a) k = k a := rfl
theorem loopF_succ {σ : Type} (b : σ → σ) (z : σ) (k : Nat) : loopF b z (k + 1) = b (loopF b z k) := rfl

theorem w64 {x : Int} (h1 : -9223372036854775808 ≤ x) (h2 : x ≤ 9223372036854775807) : IntKind.i64.wrap x = x := by
  rw [IntKind.wrap_i64]; omega

theorem w8 {x : Int} (h1 : 0 ≤ x) (h2 : x ≤ 255) : IntKind.u8.wrap x = x := by
  rw [IntKind.wrap_u8]; omega

theorem wf64 {x : Int} (h : (Lit.int .i64 x).wf = true) : -9223372036854775808 ≤ x ∧ x ≤ 9223372036854775807 := by
  simp only [Lit.wf, Bool.and_eq_true, decide_eq_true_eq] at h
  have e1 : IntKind.i64.min = -9223372036854775808 := by decide
  have e2 : IntKind.i64.max = 9223372036854775807 := by decide
  omega

theorem inR {i k : Nat} (h : i < k) : InR (i : Int) k := by simp only [InR]; omega

theorem getD_at {α : Type} {xs : List α} {i : Nat} {d : α} (h : i < xs.length) : xs.getD i d = xs[i] := by simp [List.getD, h]

theorem lim_i64 : lim (.int .i64) = 5864062014805 := by decide
theorem lim_u8 : lim (.int .u8) = 5864062014805 := by decide
theorem lim_str : lim .str = 5864062014805 := by decide

theorem drop_eq_iff {α : Type} {a b : List α} {i : Nat} (hi : i < a.length) (hi' : i < b.length) : a.drop i = b.drop i ↔ a[i] = b[i] ∧ a.drop (i + 1) = b.drop (i + 1) := by
  rw [List.drop_eq_getElem_cons hi, List.drop_eq_getElem_cons hi', List.cons.injEq]

/-- One round of a loop. -/
theorem loop_step {σ : Type} {b : σ → σ} {z : σ} {k : Nat} (h : 0 < k) : loopF b z k = b (loopF b z (k - 1)) := by
  obtain ⟨m, rfl⟩ : ∃ m, k = m + 1 := ⟨k - 1, by omega⟩
  rfl

theorem cond_dec {α : Type} {φ : Prop} [Decidable φ] {x y : α} : (cond (decide φ) x y) = if φ then x else y := by
  by_cases h : φ <;> simp [h]

theorem bne_len {a b : Nat} : (((a : Nat) : Int) != ((b : Nat) : Int)) = decide (a ≠ b) := by
  by_cases h : a = b
  · subst h; simp
  · have : (a : Int) ≠ (b : Int) := by omega
    simp [h, this]
theorem dlt {x : Int} (h : 0 ≤ x) : decide (x < 0) = false := by
  have : ¬ x < 0 := by omega
  simp [this]
end Go.Proofs.Ytgpddckjpokclaa.Vc
