/- A calculus of values over the model, twentieth part: a state told in other words, step by step; loops and recursion as what they compute. It speaks of any program. -/
import Derived.Test.YtgpddckjpokclaaVc19
namespace Go.Proofs.Ytgpddckjpokclaa.Vc
open Go Go.RowKit
set_option linter.unusedVariables false

inductive G where
  | nilS (d : Nat) (e : Ty) (m : Md)
  | nilV (d : Nat) (e : Ty)
  | nil (id j : Nat) (e : Ty) (m : Md)
  | frz (id : Nat)
  | shr (d : Nat)
  | shrB (b j : Nat)
  | frzB (id : Nat) (t : Ty)
  | nilB (id j : Nat) (e : Ty)
  | nilA (d j : Nat) (e : Ty)
  | ren (keep π : List Nat)

def G.on (s : St) : G → St
  | .nilS d e m => (evNilS s d e m).getD s
  | .nilV d e => (evNilV s d e).getD s
  | .nil id j e m => (evNil s id j e m).getD s
  | .frz id => cond (isArr s.H id) (s.frz id) s
  | .ren keep π => cond (nodup π) (s.ren keep π) s
  | .shr d => (evShr s d).getD s
  | .shrB b j => (evShrB s b j).getD s
  | .frzB id t => (evFrzB s id t).getD s
  | .nilB id j e => (evNilB s id j e).getD s
  | .nilA d j e => (evNilA s d j e).getD s

def ghs : List G → St → St
  | [], s => s
  | g :: l, s => ghs l (g.on s)

section
variable {P : Program} {T : Tab} {n : Nat} {w0 : World} {E0 : Env0} {s s' s'' : St} {ops : Array Oper} {Q : Exit → St → Prop} {rest : List Oper}

theorem Gh.on : ∀ g : G, Gh n w0 E0 s (g.on s)
  | .nilS d e m => by
    simp only [G.on]
    cases h : evNilS s d e m with
    | none => simpa using Gh.refl
    | some s' => simpa using Gh.nilS d e m h
  | .nilV d e => by
    simp only [G.on]
    cases h : evNilV s d e with
    | none => simpa using Gh.refl
    | some s' => simpa using Gh.nilV d e h
  | .nil id j e m => by
    simp only [G.on]
    cases h : evNil s id j e m with
    | none => simpa using Gh.refl
    | some s' => simpa using Gh.nil id j e m h
  | .frz id => by
    simp only [G.on]
    cases h : isArr s.H id with
    | false => exact Gh.refl
    | true => exact Gh.frz id h
  | .ren keep π => by
    simp only [G.on]
    cases h : nodup π with
    | false => exact Gh.refl
    | true => exact Gh.ren keep π h
  | .shr d => by
    simp only [G.on]
    cases h : evShr s d with
    | none => simpa using Gh.refl
    | some s' => simpa using Gh.shr d h
  | .shrB b j => by
    simp only [G.on]
    cases h : evShrB s b j with
    | none => simpa using Gh.refl
    | some s' => simpa using Gh.shrB b j h
  | .frzB id t => by
    simp only [G.on]
    cases h : evFrzB s id t with
    | none => simpa using Gh.refl
    | some s' => simpa using Gh.frzB id t h
  | .nilB id j e => by
    simp only [G.on]
    cases h : evNilB s id j e with
    | none => simpa using Gh.refl
    | some s' => simpa using Gh.nilB id j e h
  | .nilA d j e => by
    simp only [G.on]
    cases h : evNilA s d j e with
    | none => simpa using Gh.refl
    | some s' => simpa using Gh.nilA d j e h

theorem Gh.ghs : ∀ (l : List G) (s : St), Gh n w0 E0 s (ghs l s)
  | [], _ => Gh.refl
  | g :: l, s => (Gh.on g).trans (Gh.ghs l (g.on s))

/-- The state as it is told where ways meet. -/
theorem arrive {R : St → Prop} (l : List G) (e : Vc.ghs l s = s') (h : R s') : ∃ s', Gh n w0 E0 s s' ∧ R s' := ⟨s', by rw [← e]; exact Gh.ghs l s, h⟩

theorem VW.ghl (l : List G) {c : Code} (k : VW P n w0 E0 c Q (ghs l s)) : VW P n w0 E0 c Q s := VW.gh (Gh.ghs l s) k

theorem VO.ghl (l : List G) (k : VO P n w0 E0 ops Q rest (ghs l s)) : VO P n w0 E0 ops Q rest s := VO.gh (Gh.ghs l s) k

/-- A round's end. -/
theorem around {I : Nat → St → Prop} {k : Nat} (l : List G) (e : Vc.ghs l s = s') (h : I k s') : ∃ k' s'', k' < k + 1 ∧ Gh n w0 E0 s s'' ∧ I k' s'' := ⟨k, s', Nat.lt_succ_self k, by rw [← e]; exact Gh.ghs l s, h⟩

theorem VW.loopL {c : Code} (I : Nat → St → Prop) (k0 : Nat) (l : List G) (e : ghs l s = s') (h1 : I k0 s')
    (round : ∀ k s, I k s → VW P n w0 E0 c (thenQ (fun s' => ∃ k' s'', k' < k ∧ Gh n w0 E0 s' s'' ∧ I k' s'') Q) s) : VW P n w0 E0 (.loop c) Q s :=
  VW.loopG I k0 (by rw [← e]; exact Gh.ghs l s) h1 round

theorem retR {rvs : List ResultVar} {ws : List WC} {rs : List RC} (ids : List (Option Nat)) (h : retCs T s ids 0 ws rvs = some rs) (hl : Nat.ble ids.length (cntC rs) = true) : retQ T rvs ws rs .ret s := ⟨ids, h, Nat.le_of_ble_eq_true hl⟩
theorem retN {rvs : List ResultVar} {ws : List WC} {rs : List RC} (ids : List (Option Nat)) (h : retCs T s ids 0 ws rvs = some rs) (hl : Nat.ble ids.length (cntC rs) = true) : retQ T rvs ws rs .normal s := ⟨ids, h, Nat.le_of_ble_eq_true hl⟩

/-- A test in a region is decided both ways. -/
theorem VO.splitB (d : Nat) {b : Bool} (hb : look s.sl d = some (.lf (.v .bool b))) (h1 : b = true → VO P n w0 E0 ops Q rest ⟨(d, .lf (.v .bool true)) :: s.sl, s.H⟩) (h2 : b = false → VO P n w0 E0 ops Q rest ⟨(d, .lf (.v .bool false)) :: s.sl, s.H⟩) :
    VO P n w0 E0 ops Q rest s := by
  have key : ∀ c, b = c → Gh n w0 E0 s ⟨(d, .lf (.v .bool c)) :: s.sl, s.H⟩ := by
    intro c hc a w hs
    subst hc
    obtain ⟨E, μ, hA⟩ := hs.at
    refine ⟨hA.size, hA.defers, hA.apart, E, μ, hA.mr, hA.ext, fun k u hu => ?_⟩
    rw [look_put] at hu
    split at hu
    · rename_i e
      subst e
      exact hA.slots d u (hb.trans hu)
    · exact hA.slots k u hu
  cases b with
  | true => exact VO.gh (key true rfl) (h1 rfl)
  | false => exact VO.gh (key false rfl) (h2 rfl)
end

theorem cond_t {α : Type} {c : Bool} {x y : Option α} {r : α} (h : cond c x y = some r) (hc : c = true) : x = some r := by subst hc; exact h
theorem cond_f {α : Type} {c : Bool} {x y : Option α} {r : α} (h : cond c x y = some r) (hc : c = false) : y = some r := by subst hc; exact h

/-- Rounds: b makes of what the next round does what this one does. -/
def loopF {σ : Type} (b : σ → σ) (z : σ) : Nat → σ
  | 0 => z
  | k + 1 => b (loopF b z k)
end Go.Proofs.Ytgpddckjpokclaa.Vc
