/- A calculus of values over the model, tenth part: rows that are made, and rows that grow. It speaks of any program. -/
import Derived.Test.YtgpddckjpokclaaVc9
import Derived.Laws.AppendOwn
import Derived.Laws.MakeOwn
import Derived.Great.BuildSlice
namespace Go.Proofs.Ytgpddckjpokclaa.Vc
open Go Go.RowKit
set_option linter.unusedVariables false
set_option linter.unusedSimpArgs false

/-- A row's value out of its cells; m: whose the rows inside are. -/
def ofLfs (m : Md) : (t : Ty) → List Lf → Option (t.den × List Lf)
  | .int k, l :: r => (setInt k 0 l).map fun x => (x, r)
  | .bool, l :: r => (setBool 0 l).map fun x => (x, r)
  | .str, l :: r => (setStr 0 l).map fun x => (x, r)
  | .sl t, l :: r => (setSl t 0 l m).map fun x => (x, r)
  | .pair a b, l => match ofLfs m a l with
    | some (x, r) => match ofLfs m b r with
      | some (y, r') => some ((x, y), r')
      | none => none
    | none => none
  | _, [] => none

/-- No rows inside. -/
def Ty.flat : Ty → Bool
  | .sl _ => false
  | .pair a b => a.flat && b.flat
  | _ => true

def mdOf (t : Ty) : Md := cond t.flat .dp .tp

theorem mdOf_ne (t : Ty) : mdOf t ≠ .fz := by
  unfold mdOf
  cases t.flat <;> simp

def lim (t : Ty) : Nat := 140737488355328 / (24 * t.lv)

section
variable {P : Program} {T : Tab} {n : Nat} {w0 : World} {E0 : Env0} {s : St} {ops : Array Oper} {Q : Exit → St → Prop} {rest : List Oper}
variable {w w' : World} {E E' : Env} {μ μ' : Nat → Value} {H H' : Heap}

theorem Rep.flat {r r' : Root} {m m' : Md} : ∀ {t : Ty} {x : t.den} {p p' : Nat → Pos} {g : Nat → Option Value}, t.flat = true → Rep w E r t x m p g → Rep w' E' r' t x m' p' g
  | .int _, _, _, _, _, _, h => h
  | .bool, _, _, _, _, _, h => h
  | .str, _, _, _, _, _, h => h
  | .sl _, _, _, _, _, hf, _ => by simp [Ty.flat] at hf
  | .pair a b, _, _, _, _, hf, h => by
    simp only [Ty.flat, Bool.and_eq_true] at hf
    exact ⟨Rep.flat hf.1 h.1, Rep.flat hf.2 h.2⟩

theorem setSl_rep {r : Root} {t : Ty} {l : Lf} {m : Md} {x : List t.den} {y : Value} {p : Nat → Pos} {g : Nat → Option Value} (h : setSl t 0 l m = some x) (hl : LR w E μ H l y) (hg : g 0 = some y) : Rep w E r (.sl t) x m p g := by
  have h0 : setLf (.sl t) ([] : List t.den) 0 l m = some x := h
  have h1 : Rep w E r (.sl t) ([] : List t.den) m p (at0 (.slice none 0 0)) := by
    refine ⟨_, rfl, ?_⟩
    by_cases hm : m = .fz
    · exact .inl ⟨hm, .inl ⟨rfl, none, 0, rfl⟩⟩
    · exact .inr ⟨hm, .inl ⟨rfl, none, rfl⟩⟩
  have h2 := setLf_rep (.sl t) [] 0 l m x p _ y h0 hl h1
  refine Rep.move (fun _ => True) (fun q => q) (fun c hc => ⟨hc, rfl⟩) (fun c q _ hq => ⟨hq, rfl, fun k => ⟨trivial, rfl⟩⟩) (.sl t) x m _ _ _ _ (fun _ => ⟨fun _ => trivial, fun _ => rfl⟩) (fun q v hq hv => ?_) h2
  have : q = 0 := by simp [Ty.lv] at hq; omega
  subst this
  simp only [if_true] at hv
  rw [hg]
  exact hv

theorem ofLfs_rep {r : Root} {m : Md} : ∀ {t : Ty} {l : List Lf} {x : t.den} {l' : List Lf} {ys : List Value} {p : Nat → Pos}, ofLfs m t l = some (x, l') → All2 (LR w E μ H) l ys →
    Rep w E r t x m p (fun j => ys[j]?) ∧ All2 (LR w E μ H) l' (ys.drop t.lv) ∧ t.lv ≤ ys.length
  | .int k, a :: l, x, l', y :: ys, p, h, .cons h1 h2 => by
    simp only [ofLfs, Option.map_eq_some_iff, Prod.mk.injEq] at h
    obtain ⟨z, hz, rfl, rfl⟩ := h
    unfold setInt at hz
    split at hz
    · split at hz
      · rename_i hk
        subst hk
        simp only [Option.some.injEq] at hz
        subst hz
        refine ⟨?_, by simpa [Ty.lv] using h2, by simp [Ty.lv]⟩
        simp only [Rep, List.getElem?_cons_zero]
        rw [LR_int.1 h1]
      · simp at hz
    · simp at hz
  | .bool, a :: l, x, l', y :: ys, p, h, .cons h1 h2 => by
    simp only [ofLfs, Option.map_eq_some_iff, Prod.mk.injEq] at h
    obtain ⟨z, hz, rfl, rfl⟩ := h
    unfold setBool at hz
    split at hz
    · simp only [Option.some.injEq] at hz
      subst hz
      refine ⟨?_, by simpa [Ty.lv] using h2, by simp [Ty.lv]⟩
      simp only [Rep, List.getElem?_cons_zero]
      rw [LR_bool.1 h1]
    · simp at hz
  | .str, a :: l, x, l', y :: ys, p, h, .cons h1 h2 => by
    simp only [ofLfs, Option.map_eq_some_iff, Prod.mk.injEq] at h
    obtain ⟨z, hz, rfl, rfl⟩ := h
    unfold setStr at hz
    split at hz
    · simp only [Option.some.injEq] at hz
      subst hz
      refine ⟨?_, by simpa [Ty.lv] using h2, by simp [Ty.lv]⟩
      simp only [Rep, List.getElem?_cons_zero]
      rw [LR_str.1 h1]
    · simp at hz
  | .sl t, a :: l, x, l', y :: ys, p, h, .cons h1 h2 => by
    simp only [ofLfs, Option.map_eq_some_iff, Prod.mk.injEq] at h
    obtain ⟨z, hz, rfl, rfl⟩ := h
    exact ⟨setSl_rep hz h1 (by simp), by simpa [Ty.lv] using h2, by simp [Ty.lv]⟩
  | .pair t u, l, x, l', ys, p, h, hl => by
    simp only [ofLfs] at h
    split at h
    · rename_i z r1 e1
      split at h
      · rename_i z2 r2 e2
        simp only [Option.some.injEq, Prod.mk.injEq] at h
        obtain ⟨rfl, rfl⟩ := h
        obtain ⟨a1, a2, a3⟩ := ofLfs_rep (r := r) (p := p) e1 hl
        obtain ⟨b1, b2, b3⟩ := ofLfs_rep (r := r) (p := fun i => p (i + t.lv)) e2 a2
        refine ⟨⟨a1, ?_⟩, by simpa [Ty.lv, Nat.add_comm] using b2, by simp [Ty.lv] at b3 ⊢; omega⟩
        have e : (fun i => (fun j => ys[j]?) (i + t.lv)) = fun j => (ys.drop t.lv)[j]? := by
          funext i
          simp [Nat.add_comm]
        rw [e]
        exact b1
      · simp at h
    · simp at h
  | .int _, [], _, _, _, _, h, _ => by simp [ofLfs] at h
  | .bool, [], _, _, _, _, h, _ => by simp [ofLfs] at h
  | .str, [], _, _, _, _, h, _ => by simp [ofLfs] at h
  | .sl _, [], _, _, _, _, h, _ => by simp [ofLfs] at h
end
end Go.Proofs.Ytgpddckjpokclaa.Vc
