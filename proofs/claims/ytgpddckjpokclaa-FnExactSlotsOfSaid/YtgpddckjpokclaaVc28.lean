/- A calculus of values over the model, part 28: a region that draws its order, told set by set of what has been done. It speaks of any program. -/
import Derived.Test.YtgpddckjpokclaaVc27
namespace Go.Proofs.Ytgpddckjpokclaa.Vc
open Go Go.RowKit
set_option linter.unusedVariables false
set_option linter.unusedSimpArgs false

def setEq (a b : List Nat) : Bool := (a.all fun x => memN x b) && b.all fun x => memN x a

def nthA (As : List (List Nat)) (a : Nat) : List Nat := (As[a]?).getD []

/-- What the telling must heed, checked: a, what is done in it; L: from where, by which operation, to where. -/
def idOk (ops : Array Oper) (As : List (List Nat)) (L : List (Nat × Nat × Nat)) (fin : Nat) : Bool :=
  ((List.range As.length).all fun a => (List.range ops.size).all fun i => memN i (nthA As a) || !((aft ops i).all fun j => memN j (nthA As a)) ||
    L.any fun x => Nat.beq x.1 a && Nat.beq x.2.1 i && Nat.blt x.2.2 As.length && setEq (nthA As x.2.2) (i :: nthA As a)) &&
  (match As with | [] :: _ => true | _ => false) && ((List.range ops.size).all fun i => (aft ops i).all fun j => Nat.blt j i) &&
  ((List.range As.length).all fun a => !((List.range ops.size).all fun i => memN i (nthA As a)) || Nat.beq a fin)

def ghQ (n : Nat) (w0 : World) (E0 : Env0) (Q : Exit → St → Prop) (t : St) : Exit → St → Prop
  | .normal, s => Gh n w0 E0 s t
  | e, s => Q e s

def StI (P : Program) (n : Nat) (w0 : World) (E0 : Env0) (ops : Array Oper) (Q : Exit → St → Prop) (Ss : List St) (x : Nat × Nat × Nat) : Prop :=
  ∃ o S1 S2, ops[x.2.1]? = some o ∧ Ss[x.1]? = some S1 ∧ Ss[x.2.2]? = some S2 ∧ VO P n w0 E0 ops (ghQ n w0 E0 Q S2) [o] S1

section
variable {P : Program} {T : Tab} {n : Nat} {w0 : World} {E0 : Env0} {s s' s'' : St} {ops : Array Oper} {Q : Exit → St → Prop} {rest : List Oper}

theorem VI.fin {t u : St} (e : t = u) : VO P n w0 E0 ops (ghQ n w0 E0 Q u) [] t := VO.nil (by subst e; exact Gh.refl)

theorem ideal_all {As : List (List Nat)} {Ss : List St} {L : List (Nat × Nat × Nat)} {fin : Nat} (hok : idOk ops As L fin = true) (hst : AllP (StI P n w0 E0 ops Q Ss) L)
    (k : ∀ a w S, Ss[fin]? = some S → SRel n w0 E0 S a w → ∃ s', SRel n w0 E0 s' a w ∧ Q .normal s') :
    ∀ (fuel : Nat) (listed : Array Bool) (a : Act) (w : World) (q : Nat) (S : St), listed.size = ops.size → q < As.length → Ss[q]? = some S → SRel n w0 E0 S a w → (∀ x, listed.getD x false = true ↔ x ∈ nthA As q) →
      ((List.range ops.size).filter fun i => !listed.getD i false).length ≤ fuel → wpAny P .any ops (fun e a' w' => ∃ s', SRel n w0 E0 s' a' w' ∧ Q e s') fuel listed a w := by
  simp only [idOk, Bool.and_eq_true] at hok
  obtain ⟨⟨⟨hcov, _⟩, hlow⟩, hfin⟩ := hok
  simp only [List.all_eq_true, List.mem_range] at hcov hlow hfin
  have done : ∀ (listed : Array Bool) (a : Act) (w : World) (q : Nat) (S : St), q < As.length → Ss[q]? = some S → SRel n w0 E0 S a w → (∀ x, listed.getD x false = true ↔ x ∈ nthA As q) → (∀ i, i < ops.size → listed.getD i false = true) → ∃ s', SRel n w0 E0 s' a w ∧ Q .normal s' := by
    intro listed a w q S hq hS hr hl hall
    have h1 := hfin q hq
    have h2 : ((List.range ops.size).all fun i => memN i (nthA As q)) = true := by
      simp only [List.all_eq_true, List.mem_range]
      exact fun i hi => memN_iff.2 ((hl i).1 (hall i hi))
    rw [h2] at h1
    simp only [Bool.not_true, Bool.false_or] at h1
    have h1 := Nat.eq_of_beq_eq_true h1
    subst h1
    exact k a w S hS hr
  have ready_nil : ∀ (listed : Array Bool), listed.size = ops.size → Region.ready .any ops listed = [] → ∀ i, i < ops.size → listed.getD i false = true := by
    intro listed hs hr i
    induction i using Nat.strongRecOn with
    | _ i ih =>
      intro hi
      cases hl : listed.getD i false with
      | true => rfl
      | false =>
        exfalso
        have : i ∈ Region.ready .any ops listed := by
          rw [mem_ready]
          have hi' : i < listed.size := by omega
          refine ⟨?_, ops[i], by simp [hi], fun e he hb => ?_⟩
          · simp only [Array.getD_eq_getD_getElem?, Array.getElem?_eq_getElem hi', Option.getD_some] at hl ⊢
            exact hl
          · have hm : e.on ∈ aft ops i := (aft_of (by simp [hi])).2 ⟨e, he, hb, rfl⟩
            have hlt := hlow i hi e.on hm
            have hlt : e.on < i := by simpa [Nat.blt_eq] using hlt
            exact ih e.on hlt (by omega)
        rw [hr] at this
        simp at this
  intro fuel
  induction fuel with
  | zero =>
    intro listed a w q S hs hq hS hr hl hf
    have hall : ∀ i, i < ops.size → listed.getD i false = true := by
      intro i hi
      cases hli : listed.getD i false with
      | true => rfl
      | false =>
        have : i ∈ (List.range ops.size).filter fun i => !listed.getD i false := by rw [List.mem_filter]; exact ⟨by simpa using hi, by simp only [hli, Bool.not_false]⟩
        have := List.length_pos_of_mem this
        omega
    refine ⟨?_, done listed a w q S hq hS hr hl hall⟩
    rw [List.eq_nil_iff_forall_not_mem]
    intro i hi
    rw [mem_ready] at hi
    obtain ⟨h1, o, ho, _⟩ := hi
    have hlt := (Array.getElem?_eq_some_iff.1 ho).1
    have := hall i hlt
    have hi' : i < listed.size := by rw [hs]; exact hlt
    simp only [Array.getD_eq_getD_getElem?, Array.getElem?_eq_getElem hi', Option.getD_some] at this h1
    rw [this] at h1
    simp at h1
  | succ fuel ih =>
    intro listed a w q S hs hq hS hr hl hf
    refine ⟨fun hrd => done listed a w q S hq hS hr hl (ready_nil listed hs hrd), fun i hi => ?_⟩
    rw [mem_ready] at hi
    obtain ⟨hni, o, ho, hafter⟩ := hi
    have hlt := (Array.getElem?_eq_some_iff.1 ho).1
    have hi' : i < listed.size := by rw [hs]; exact hlt
    have hni : listed.getD i false = false := by
      simp only [Array.getD_eq_getD_getElem?, Array.getElem?_eq_getElem hi', Option.getD_some] at hni ⊢
      exact hni
    have haft : ∀ j ∈ aft ops i, listed.getD j false = true := by
      intro j hj
      obtain ⟨e, h1, h2, rfl⟩ := (aft_of ho).1 hj
      exact hafter e h1 h2
    have hc := hcov q hq i hlt
    have h1 : memN i (nthA As q) = false := by
      cases hm : memN i (nthA As q) with
      | false => rfl
      | true =>
        have := (hl i).2 (memN_iff.1 hm)
        rw [hni] at this
        simp at this
    have h2 : ((aft ops i).all fun j => memN j (nthA As q)) = true := by
      simp only [List.all_eq_true]
      exact fun j hj => memN_iff.2 ((hl j).1 (haft j hj))
    rw [h1, h2] at hc
    simp only [Bool.not_true, Bool.false_or, Bool.or_self, List.any_eq_true, Bool.and_eq_true] at hc
    obtain ⟨⟨x1, x2, x3⟩, hx, ⟨⟨e1, e2⟩, e3⟩, e4⟩ := hc
    simp only at e1 e2 e3 e4
    have e1 := Nat.eq_of_beq_eq_true e1
    have e2 := Nat.eq_of_beq_eq_true e2
    subst e1 e2
    have e3 : x3 < As.length := by simpa [Nat.blt_eq] using e3
    obtain ⟨o', S1, S2, ho', hS1, hS2, hvo⟩ := AllP.mem hst _ hx
    simp only at ho' hS1 hS2
    rw [ho] at ho'
    simp only [Option.some.injEq] at ho'
    subst ho'
    rw [hS] at hS1
    simp only [Option.some.injEq] at hS1
    subst hS1
    simp only [setEq, Bool.and_eq_true, List.all_eq_true] at e4
    have next : ∀ a' w' s1, SRel n w0 E0 s1 a' w' → Gh n w0 E0 s1 S2 → wpAny P .any ops (fun e a' w' => ∃ s', SRel n w0 E0 s' a' w' ∧ Q e s') fuel (listed.setIfInBounds x2 true) a' w' := by
      intro a' w' s1 hr1 hg
      have hget : ∀ x, (listed.setIfInBounds x2 true).getD x false = true ↔ x = x2 ∨ listed.getD x false = true := by
        intro x
        by_cases hx : x = x2
        · subst hx
          simp [hi']
        · rw [getD_set_ne false (Ne.symm hx)]
          simp [hx]
      refine ih _ a' w' x3 S2 (by simp [hs]) e3 hS2 (hg a' w' hr1) (fun x => ?_) ?_
      · rw [hget, hl]
        constructor
        · intro h
          refine memN_iff.1 (e4.2 x ?_)
          rcases h with rfl | h
          · exact List.mem_cons_self
          · exact List.mem_cons_of_mem _ h
        · intro h
          have := memN_iff.1 (e4.1 x h)
          rcases List.mem_cons.1 this with h | h
          · exact .inl h
          · exact .inr h
      · have hsub : ((List.range ops.size).filter fun x => !(listed.setIfInBounds x2 true).getD x false).length < ((List.range ops.size).filter fun x => !listed.getD x false).length := by
          have hp : ∀ x, (!(listed.setIfInBounds x2 true).getD x false) = ((!listed.getD x false) && !decide (x = x2)) := by
            intro x
            cases h1 : (listed.setIfInBounds x2 true).getD x false with
            | true =>
              rcases (hget x).1 h1 with h2 | h2
              · simp [h2]
              · rw [h2]; rfl
            | false =>
              have h2 : ¬ (x = x2 ∨ listed.getD x false = true) := fun h => by rw [(hget x).2 h] at h1; simp at h1
              have h3 : x ≠ x2 := fun e => h2 (.inl e)
              have h4 : listed.getD x false = false := by cases h5 : listed.getD x false with
                | true => exact absurd (.inr h5) h2
                | false => rfl
              rw [h4]
              simp [h3]
          have e : ((List.range ops.size).filter fun x => !(listed.setIfInBounds x2 true).getD x false) = ((List.range ops.size).filter fun x => !listed.getD x false).filter fun x => !decide (x = x2) := by
            rw [List.filter_filter]
            congr 1
            funext x
            rw [hp x, Bool.and_comm]
          rw [e]
          refine List.length_filter_lt_length_iff_exists.2 ⟨x2, ?_, by simp⟩
          rw [List.mem_filter]
          exact ⟨by simpa using hlt, by simp only [hni, Bool.not_false]⟩
        omega
    have hvo := hvo a w hr
    unfold wpOp
    rw [ho]
    simp only
    unfold wpList at hvo
    by_cases hwt : Region.wanted o (yielded ops a.tmps) = true
    · rw [if_pos hwt] at hvo ⊢
      rcases hvo with hvo | ⟨hvo1, a1, w1, s1, h1, h2⟩
      · refine .inl (Oper.wp_mono ?_ (wp_swap ?_ hvo))
        · rintro a' w' ⟨s1, h1, h2⟩
          exact next a' w' s1 h1 h2
        · rintro e a' w' hne ⟨s1, h1, h2⟩
          refine ⟨s1, h1, ?_⟩
          cases e with
          | normal => exact absurd rfl hne
          | exit id => exact h2
          | goto l => exact h2
          | ret => exact h2
          | panic c => exact h2
          | outgrown => exact h2
      · exact .inr ⟨hvo1, a1, w1, s1, h1, h2⟩
    · rw [if_neg hwt] at hvo ⊢
      obtain ⟨s1, h1, h2⟩ := hvo
      exact next _ _ s1 h1 h2

/-- A region that draws its order, told set by set. -/
theorem VW.ideal {id : Nat} (hm : P.follows .mixedOrders = true) (As : List (List Nat)) (Ss : List St) (L : List (Nat × Nat × Nat)) (fin : Nat) (hok : idOk ops As L fin = true) (h0 : Ss[0]? = some s) (h1 : Ss[fin]? = some s')
    (hst : AllP (StI P n w0 E0 ops Q Ss) L) (k : Q .normal s') : VW P n w0 E0 (.region id ops true) Q s := by
  intro a w hs
  refine wp_region_any hm ?_
  have hA : ∃ l, As = [] :: l := by
    simp only [idOk, Bool.and_eq_true] at hok
    have := hok.1.1.2
    split at this
    · exact ⟨_, rfl⟩
    · simp at this
  obtain ⟨l, rfl⟩ := hA
  refine ideal_all hok hst ?_ ops.size _ a _ 0 s (by simp) (by simp) h0 hs.drew ?_ ?_
  · intro a' w' S hS hr
    rw [h1] at hS
    simp only [Option.some.injEq] at hS
    subst hS
    exact ⟨_, hr, k⟩
  · intro x
    rw [Array.getD_eq_getD_getElem?, Array.getElem?_replicate]
    constructor
    · intro h
      split at h <;> simp at h
    · intro h
      simp [nthA] at h
  · exact Nat.le_trans (List.length_filter_le _ _) (by simp)
end
end Go.Proofs.Ytgpddckjpokclaa.Vc
