/- A calculus of values over the model, seventh part: the walk of a region, operation by operation. It speaks of any program. -/
import Derived.Test.YtgpddckjpokclaaVc6
namespace Go.Proofs.Ytgpddckjpokclaa.Vc
open Go Go.RowKit
set_option linter.unusedVariables false
set_option linter.unusedSimpArgs false

/-- The walk of what is left of a region. -/
def VO (P : Program) (n : Nat) (w0 : World) (E0 : Env0) (ops : Array Oper) (Q : Exit → St → Prop) (rest : List Oper) (s : St) : Prop :=
  ∀ a w, SRel n w0 E0 s a w → wpList P ops (fun e a' w' => ∃ s', SRel n w0 E0 s' a' w' ∧ Q e s') rest a w

section
variable {P : Program} {T : Tab} {n : Nat} {w0 : World} {E0 : Env0} {s : St} {ops : Array Oper} {Q : Exit → St → Prop} {rest : List Oper}

theorem VW.region {id : Nat} (h : VO P n w0 E0 ops Q ops.toList s) : VW P n w0 E0 (.region id ops false) Q s :=
  fun a w hs => wp_region_list (h a w hs)

theorem VO.nil (h : Q .normal s) : VO P n w0 E0 ops Q [] s := fun _ _ hs => wpList_nil ⟨s, hs, h⟩

theorem look_put (sl : List (Nat × AV)) (d k : Nat) (v : AV) : look ((d, v) :: sl) k = if d = k then some v else look sl k := by
  simp only [look]
  by_cases h : d = k
  · subst h; simp [show Nat.beq d d = true from Nat.beq_refl d]
  · have : Nat.beq d k = false := by cases hb : Nat.beq d k; rfl; exact absurd (Nat.eq_of_beq_eq_true hb) h
    simp [this, h]

/-- A slot is written, in another memory that keeps what the slots hold. -/
theorem At.put {a : Act} {w w' : World} {E E' : Env} {μ μ' : Nat → Value} {H' : Heap} (hA : At n w0 E0 s a w E μ) {d : Nat} {v : AV} {y : Value} (hd : d < n)
    (hM : MR w' E' μ' H' 0) (hX : Ext w E w' E') (hS : ∀ b, E.S b → E'.S b ∧ w'.heap[b]? = w.heap[b]?) (hH : KpH μ μ' s.H H') (hv : AR w' E' μ' H' v y) :
    At n w0 E0 ⟨(d, v) :: s.sl, H'⟩ (a.put (some d) y) w' E' μ' where
  size := ⟨by simp [Act.put, hA.size.1], hA.size.2⟩
  defers := hA.defers
  apart := hA.apart
  mr := hM
  ext := hA.ext.trans hA.apart hX
  slots := fun k u hu => by
    rw [look_put] at hu
    by_cases hdk : d = k
    · subst hdk
      simp only [if_true, Option.some.injEq] at hu
      subst hu
      exact ⟨y, by rw [getS_lt (Nat.lt_of_lt_of_le hd hA.size.2)]; simp [Act.put, Array.getElem?_setIfInBounds, hA.size.1, hd], hv⟩
    · rw [if_neg hdk] at hu
      obtain ⟨z, h1, h2⟩ := hA.slots k u hu
      refine ⟨z, ?_, AR.keep hS hH _ _ h2⟩
      unfold getS at h1 ⊢
      split
      · rename_i hk; rw [if_pos hk] at h1; simp [Act.put, Array.getElem?_setIfInBounds, hdk, h1]
      · rename_i hk; rw [if_neg hk] at h1; exact h1

/-- No slot is written. -/
theorem At.unput {a : Act} {w w' : World} {E E' : Env} {μ μ' : Nat → Value} {H' : Heap} (hA : At n w0 E0 s a w E μ)
    (hM : MR w' E' μ' H' 0) (hX : Ext w E w' E') (hS : ∀ b, E.S b → E'.S b ∧ w'.heap[b]? = w.heap[b]?) (hH : KpH μ μ' s.H H') :
    At n w0 E0 ⟨s.sl, H'⟩ a w' E' μ' where
  size := hA.size
  defers := hA.defers
  apart := hA.apart
  mr := hM
  ext := hA.ext.trans hA.apart hX
  slots := fun k u hu => by
    obtain ⟨z, h1, h2⟩ := hA.slots k u hu
    exact ⟨z, h1, AR.keep hS hH _ _ h2⟩

/-- One operation that only reads: where its value goes, what must hold, the value. -/
def evQ (T : Tab) (n : Nat) (s : St) (o : Oper) : Option (Nat × Prop × AV) :=
  match o.guard, o.dst with
  | none, some d => cond (Nat.blt d n) ((evOp T s o.op).map fun r => (d, r.1, r.2)) none
  | _, _ => none

theorem wpList_value {o : Oper} {a : Act} {w w' : World} {y : Value} {R : Exit → Act → World → Prop} (hg : o.guard = none) (h : (execOp a.eval o).run P w = .ok (.value y) w') (k : wpList P ops R rest (a.put o.dst y) w') :
    wpList P ops R (o :: rest) a w := by
  refine wpList_plain hg fun K hK => ?_
  simp only [Oper.wp, h, Oper.upon]
  exact hK _ _ k

theorem wpList_skip {o : Oper} {a : Act} {w w' : World} {R : Exit → Act → World → Prop} (hg : o.guard = none) (h : (execOp a.eval o).run P w = .ok .skip w') (k : wpList P ops R rest (a.put o.dst undef) w') :
    wpList P ops R (o :: rest) a w := by
  refine wpList_plain hg fun K hK => ?_
  simp only [Oper.wp, h, Oper.upon]
  exact hK _ _ k

theorem VO.q {o : Oper} {d : Nat} {φ : Prop} {v : AV} (hT : TabOk P T) (h : evQ T n s o = some (d, φ, v)) (hφ : φ) (k : VO P n w0 E0 ops Q rest ⟨(d, v) :: s.sl, s.H⟩) : VO P n w0 E0 ops Q (o :: rest) s := by
  intro a w hs
  obtain ⟨E, μ, hA⟩ := hs.at
  unfold evQ at h
  split at h
  · rename_i d' hg hd
    cases hb : Nat.blt d' n with
    | false => rw [hb] at h; simp at h
    | true =>
      rw [hb] at h
      simp only [cond_true, Option.map_eq_some_iff, Prod.mk.injEq] at h
      obtain ⟨⟨φ', v'⟩, h1, rfl, rfl, rfl⟩ := h
      obtain ⟨y, h2, h3⟩ := evOp_run hT hA h1 hφ
      refine wpList_value hg h2 ?_
      rw [hd]
      exact k _ _ (hA.put (by simpa [Nat.blt_eq] using hb) hA.mr (Ext.refl w E) (fun b hb => ⟨hb, rfl⟩) (KpH.refl μ s.H) h3).rel
  · simp at h

/-! ### guards, and the choice behind them -/
theorem VO.off {o : Oper} {j : Nat} {want : Bool} {g : Oper} {d : Nat} {b : Bool} {e : Nat} (hg : o.guard = some (j, want)) (hj : ops[j]? = some g) (hd : g.dst = some d) (hb : opnd s.sl (.tmp d) = some (.lf (.v .bool b))) (hw : b ≠ want)
    (he : o.dst = some e) (hn : e < n) (k : VO P n w0 E0 ops Q rest ⟨(e, .unk) :: s.sl, s.H⟩) : VO P n w0 E0 ops Q (o :: rest) s := by
  intro a w hs
  obtain ⟨E, μ, hA⟩ := hs.at
  obtain ⟨y, h1, h2⟩ := hA.tmp hb
  simp only [AR, LR_bool] at h2
  subst h2
  have hy : yielded ops a.tmps j = some b := by
    simp [yielded, hj, hd, h1]
  have hwt : Region.wanted o (yielded ops a.tmps) = false := by
    simp [Region.wanted, hg, hy, hw]
  unfold wpList
  rw [if_neg (by simp [hwt]), he]
  exact k _ _ (hA.put hn hA.mr (Ext.refl w E) (fun b hb => ⟨hb, rfl⟩) (KpH.refl μ s.H) (v := .unk) rfl).rel

/-- .. behind a guard that did not run itself. -/
theorem VO.off2 {o : Oper} {j : Nat} {want : Bool} {g : Oper} {d : Nat} {e : Nat} (hg : o.guard = some (j, want)) (hj : ops[j]? = some g) (hd : g.dst = some d) (hb : opnd s.sl (.tmp d) = some .unk)
    (he : o.dst = some e) (hn : e < n) (k : VO P n w0 E0 ops Q rest ⟨(e, .unk) :: s.sl, s.H⟩) : VO P n w0 E0 ops Q (o :: rest) s := by
  intro a w hs
  obtain ⟨E, μ, hA⟩ := hs.at
  obtain ⟨y, h1, h2⟩ := hA.tmp hb
  have h2 : y = undef := h2
  subst h2
  have hy : yielded ops a.tmps j = none := by
    simp [yielded, hj, hd, h1, undef]
  have hwt : Region.wanted o (yielded ops a.tmps) = false := by
    simp [Region.wanted, hg, hy]
  unfold wpList
  rw [if_neg (by simp [hwt]), he]
  exact k _ _ (hA.put hn hA.mr (Ext.refl w E) (fun b hb => ⟨hb, rfl⟩) (KpH.refl μ s.H) (v := .unk) rfl).rel

/-- A guarded operation that runs is as an unguarded one. -/
theorem VO.on {o : Oper} {j : Nat} {want : Bool} {g : Oper} {d : Nat} {b : Bool} (hg : o.guard = some (j, want)) (hj : ops[j]? = some g) (hd : g.dst = some d) (hb : opnd s.sl (.tmp d) = some (.lf (.v .bool b))) (hw : b = want)
    (k : VO P n w0 E0 ops Q ({ o with guard := none } :: rest) s) : VO P n w0 E0 ops Q (o :: rest) s := by
  intro a w hs
  obtain ⟨E, μ, hA⟩ := hs.at
  obtain ⟨y, h1, h2⟩ := hA.tmp hb
  simp only [AR, LR_bool] at h2
  subst h2
  have hy : yielded ops a.tmps j = some b := by
    simp [yielded, hj, hd, h1]
  have hwt : Region.wanted o (yielded ops a.tmps) = true := by
    simp [Region.wanted, hg, hy, hw]
  have := k a w hs
  unfold wpList at this ⊢
  rw [if_pos hwt]
  rw [if_pos (by simp [Region.wanted])] at this
  exact this

theorem VO.pick {o : Oper} {c x y : Operand} {d : Nat} {b : Bool} {v : AV} (ho : o.op = .pick c x y) (hg : o.guard = none) (hd : o.dst = some d) (hn : d < n) (hc : opnd s.sl c = some (.lf (.v .bool b)))
    (hv : opnd s.sl (if b then x else y) = some v) (k : VO P n w0 E0 ops Q rest ⟨(d, v) :: s.sl, s.H⟩) : VO P n w0 E0 ops Q (o :: rest) s := by
  intro a w hs
  obtain ⟨E, μ, hA⟩ := hs.at
  have hc' := hA.opnd hc
  simp only [AR, LR_bool] at hc'
  refine wpList_value (y := a.eval (if b then x else y)) (w' := w) hg ?_ ?_
  · simp only [execOp, ho, hc', asBool, Sem.run_bind, Sem.run_pure, Result.andThen_ok]
    cases b <;> simp
  · rw [hd]
    exact k _ _ (hA.put hn hA.mr (Ext.refl w E) (fun b hb => ⟨hb, rfl⟩) (KpH.refl μ s.H) (hA.opnd hv)).rel

/-- A test is decided both ways. -/
theorem VO.split {b : Bool} (h1 : b = true → VO P n w0 E0 ops Q rest s) (h2 : b = false → VO P n w0 E0 ops Q rest s) : VO P n w0 E0 ops Q rest s := by
  cases b
  · exact h2 rfl
  · exact h1 rfl
end
end Go.Proofs.Ytgpddckjpokclaa.Vc
