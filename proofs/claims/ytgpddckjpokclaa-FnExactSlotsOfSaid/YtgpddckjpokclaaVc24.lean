/- A calculus of values over the model, part 24: is a slice nil? (What is told of a slice does not say; both answers are followed.) It speaks of any program. -/
import Derived.Test.YtgpddckjpokclaaVc23
namespace Go.Proofs.Ytgpddckjpokclaa.Vc
open Go Go.RowKit
set_option linter.unusedVariables false
set_option linter.unusedSimpArgs false

section
variable {P : Program} {T : Tab} {n : Nat} {w0 : World} {E0 : Env0} {s s' s'' : St} {ops : Array Oper} {Q : Exit → St → Prop} {rest : List Oper}

theorem equalIn_nil (k : Nat) {t el : TypeId} (hu : P.underlying t = some (.slice el)) (ad : Option Addr) (l c : Nat) (w : World) : (Op.equalIn (k + 1) t (.slice ad l c) (.slice none 0 0)).run P w = .ok ad.isNone w := by
  cases ad with
  | none => simp only [Op.equalIn, Sem.run_bind, run_underlying hu, Result.andThen_ok, Sem.run_pure, Option.isNone_none]
  | some a => simp only [Op.equalIn, Sem.run_bind, run_underlying hu, Result.andThen_ok, Sem.run_pure, Option.isNone_some]

theorem equal_nil {t el : TypeId} (hu : P.underlying t = some (.slice el)) (ad : Option Addr) (l c : Nat) (w : World) : (Op.equal t (.slice ad l c) (.slice none 0 0)).run P w = .ok ad.isNone w := equalIn_nil 9999 hu ad l c w

theorem VO.isNil {o : Oper} {d : Nat} {t u : TypeId} {x : Operand} {e : Ty} {xs : List e.den} (hT : TabOk P T) (ho : o.op = .binOp .eql t x (.const (.slice none 0 0)) u) (hg : o.guard = none) (hd : o.dst = some d) (hn : Nat.blt d n = true) (ht : elemIs T t e = true) (hx : opnd s.sl x = some (.lf (.v (.sl e) xs)))
    (h1 : xs = [] → VO P n w0 E0 ops Q rest ⟨(d, .lf (.v .bool true)) :: s.sl, s.H⟩) (h2 : VO P n w0 E0 ops Q rest ⟨(d, .lf (.v .bool false)) :: s.sl, s.H⟩) : VO P n w0 E0 ops Q (o :: rest) s := by
  intro a w hs
  obtain ⟨E, μ, hA⟩ := hs.at
  have hdn : d < n := by simpa [Nat.blt_eq] using hn
  obtain ⟨ti, ej, e1, e2, e3, e4, e5⟩ := elemIs_under hT ht
  have hy := hA.opnd hx
  have hy : Rep w E (.res 0) (.sl e) xs .fz (fun _ => .top) (at0 (a.eval x)) := hy
  obtain ⟨ad, l, c, f1, f2⟩ : ∃ ad l c, a.eval x = .slice ad l c ∧ (ad.isNone = true → xs = []) := by
    obtain ⟨v, h0, h⟩ := hy
    simp only [at0, if_true, Option.some.injEq] at h0
    rcases h with ⟨_, ⟨hxs, ad, c, hv⟩ | ⟨b, o, c, hv, _⟩⟩ | ⟨h, _⟩
    · exact ⟨ad, 0, c, by rw [h0, hv], fun _ => hxs⟩
    · exact ⟨_, _, c, by rw [h0, hv], fun h => by simp at h⟩
    · exact absurd rfl h
  have hrun : (execOp a.eval o).run P w = .ok (.value (.bool ad.isNone)) w := by
    have hgu : ∀ x' y', (eqGuard .eql t x' y' (.slice ad l c) (.slice none 0 0)) = pure () := fun _ _ => rfl
    have hev : a.eval (.const (.slice none 0 0)) = .slice none 0 0 := rfl
    have hbo : (binOp .eql t (.slice ad l c) (.slice none 0 0)).run P w = .ok (.bool ad.isNone) w := by
      simp only [binOp, Sem.run_bind, equal_nil e3, Result.andThen_ok, Sem.run_pure]
    simp only [execOp, ho, f1, hev, hgu, Sem.run_bind, hbo, Result.andThen_ok, Sem.run_pure]
  refine wpList_value hg hrun ?_
  rw [hd]
  cases hb : ad.isNone with
  | true => exact h1 (f2 hb) _ _ (hA.put hdn hA.mr (Ext.refl w E) (fun b hb => ⟨hb, rfl⟩) (KpH.refl μ s.H) (AR_bool true)).rel
  | false => exact h2 _ _ (hA.put hdn hA.mr (Ext.refl w E) (fun b hb => ⟨hb, rfl⟩) (KpH.refl μ s.H) (AR_bool false)).rel
end
end Go.Proofs.Ytgpddckjpokclaa.Vc
