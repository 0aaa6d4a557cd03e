/- What the laws' own functions give: whole numbers, lists of them, caches. -/
import Derived.Test.YtgpddckjpokclaaDoorVt
import Derived.Test.YtgpddckjpokclaaDoorPu0
namespace Go.Proofs.YtgpddckjpokclaaDoor.Vc
open Go Go.RowKit
set_option linter.unusedVariables false
set_option linter.unusedSimpArgs false
/-- The numbers from k on. -/
def upFrom (k : Int) : Nat → List Int
  | 0 => []
  | n + 1 => k :: upFrom (k + 1) n

theorem upFrom_length (k : Int) (n : Nat) : (upFrom k n).length = n := by
  induction n generalizing k with
  | zero => rfl
  | succ n ih => simp [upFrom, ih]

theorem upFrom_at {n : Nat} : ∀ {k : Int} {i : Nat} (h : i < (upFrom k n).length), (upFrom k n)[i] = k + i := by
  induction n with
  | zero => intro k i h; simp [upFrom] at h
  | succ n ih =>
    intro k i h
    cases i with
    | zero => simp [upFrom]
    | succ i =>
      simp only [upFrom, List.getElem_cons_succ]
      rw [ih]
      omega

theorem upFrom_snoc (k : Int) (n : Nat) : upFrom k (n + 1) = upFrom k n ++ [k + n] := by
  induction n generalizing k with
  | zero => simp [upFrom]
  | succ n ih =>
    rw [upFrom, ih (k + 1)]
    simp only [upFrom, List.cons_append, List.cons.injEq, true_and, List.append_cancel_left_eq, and_true]
    omega

theorem set_next (u : List Int) (a : List Int) (i : Nat) (hi : i < a.length) (hu : u.length = i) (v : Int) : (u ++ a.drop i).set i v = u ++ [v] ++ a.drop (i + 1) := by
  subst hu
  rw [List.set_append_right _ _ (Nat.le_refl _), Nat.sub_self, List.drop_eq_getElem_cons hi, List.set_cons_zero, List.append_assoc, List.singleton_append]
abbrev Ca := Int × (List Int × List Int)
end Go.Proofs.YtgpddckjpokclaaDoor.Vc
