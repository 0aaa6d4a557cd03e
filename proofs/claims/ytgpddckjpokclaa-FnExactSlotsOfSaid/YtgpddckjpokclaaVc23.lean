/- A calculus of values over the model, part 23: whatever order a region draws, one telling serves. It speaks of any program. -/
import Derived.Test.YtgpddckjpokclaaVc22
namespace Go.Proofs.Ytgpddckjpokclaa.Vc
open Go Go.RowKit
set_option linter.unusedVariables false
set_option linter.unusedSimpArgs false

/-- What the orders of a region must heed, checked. -/
def drawOk (ops : Array Oper) (es : List (Option (Nat × AV))) (ns : List Nat) (L : List (Nat × Nat)) : Bool :=
  chained ops ns && nodupO ((List.range ops.size).map (dstOf ops)) && covers ops ns L && (ns.all fun x => Nat.blt x ops.size) &&
  ((List.range ops.size).all fun i => (aft ops i).all fun j => Nat.blt j i) &&
  ((List.range ops.size).all fun i => match es[i]? with | some (some (d, _)) => eqO (dstOf ops i) d | _ => true)

def fin (ops : Array Oper) (es : List (Option (Nat × AV))) (sl : List (Nat × AV)) : List (Nat × AV) :=
  ((List.range ops.size).filterMap fun j => (es[j]?).getD none) ++ sl.filter fun x => (List.range ops.size).all fun j => !eqO (dstOf ops j) x.1

section
variable {P : Program} {T : Tab} {n : Nat} {w0 : World} {E0 : Env0} {s s' s'' : St} {ops : Array Oper} {Q : Exit → St → Prop} {rest : List Oper} {sl sl' view : List (Nat × AV)} {H H' : Heap}

theorem look_append {l1 l2 : List (Nat × AV)} {k : Nat} {v : AV} (h : look (l1 ++ l2) k = some v) : look l1 k = some v ∨ look l2 k = some v := by
  induction l1 with
  | nil => exact .inr h
  | cons x l1 ih =>
    obtain ⟨j, u⟩ := x
    simp only [List.cons_append, look] at h ⊢
    cases hb : Nat.beq j k with
    | true => rw [hb] at h; exact .inl h
    | false => rw [hb] at h; exact ih h

theorem look_mem : ∀ {l : List (Nat × AV)} {k : Nat} {v : AV}, look l k = some v → (k, v) ∈ l
  | [], _, _, h => by simp [look] at h
  | (j, u) :: l, k, v, h => by
    simp only [look] at h
    cases hb : Nat.beq j k with
    | true =>
      rw [hb] at h
      simp only [cond_true, Option.some.injEq] at h
      subst h
      rw [Nat.eq_of_beq_eq_true hb]
      exact List.mem_cons_self
    | false => rw [hb] at h; exact List.mem_cons_of_mem _ (look_mem h)

theorem look_filter (p : Nat → Bool) : ∀ {l : List (Nat × AV)} {k : Nat} {v : AV}, look (l.filter fun x => p x.1) k = some v → look l k = some v ∧ p k = true
  | [], _, _, h => by simp [look] at h
  | (j, u) :: l, k, v, h => by
    cases hp : p j with
    | true =>
      rw [List.filter_cons_of_pos (by simpa using hp)] at h
      simp only [look] at h ⊢
      cases hb : Nat.beq j k with
      | true =>
        rw [hb] at h
        have := Nat.eq_of_beq_eq_true hb
        subst this
        exact ⟨h, hp⟩
      | false => rw [hb] at h; exact look_filter p h
    | false =>
      rw [List.filter_cons_of_neg (by simp [hp])] at h
      obtain ⟨h1, h2⟩ := look_filter p h
      refine ⟨?_, h2⟩
      simp only [look]
      cases hb : Nat.beq j k with
      | true =>
        have := Nat.eq_of_beq_eq_true hb
        subst this
        rw [hp] at h2
        simp at h2
      | false => exact h1

theorem nodupO_spec : ∀ {l : List (Option Nat)}, nodupO l = true → ∀ (i j d : Nat), l[i]? = some (some d) → l[j]? = some (some d) → i = j
  | [], _, i, j, d, h1, _ => by simp at h1
  | none :: l, h, i, j, d, h1, h2 => by
    cases i with
    | zero => simp at h1
    | succ i => cases j with
      | zero => simp at h2
      | succ j => rw [nodupO_spec (l := l) h i j d (by simpa using h1) (by simpa using h2)]
  | some e :: l, h, i, j, d, h1, h2 => by
    simp only [nodupO, Bool.and_eq_true, Bool.not_eq_true', List.any_eq_false] at h
    cases i with
    | zero => cases j with
      | zero => rfl
      | succ j =>
        simp only [List.getElem?_cons_zero, Option.some.injEq] at h1
        subst h1
        have := h.1 (some e) (List.mem_of_getElem? (by simpa using h2))
        exact absurd (eqO_iff.2 rfl) this
    | succ i => cases j with
      | zero =>
        simp only [List.getElem?_cons_zero, Option.some.injEq] at h2
        subst h2
        have := h.1 (some e) (List.mem_of_getElem? (by simpa using h1))
        exact absurd (eqO_iff.2 rfl) this
      | succ j => rw [nodupO_spec (l := l) h.2 i j d (by simpa using h1) (by simpa using h2)]

theorem chained_spec : ∀ {ns : List Nat}, chained ops ns = true → ∀ (j x y : Nat), ns[j]? = some x → ns[j + 1]? = some y → x ∈ aft ops y
  | [], _, j, x, y, h1, _ => by simp at h1
  | [_], _, j, x, y, h1, h2 => by simp at h2
  | a :: b :: l, h, j, x, y, h1, h2 => by
    simp only [chained, Bool.and_eq_true] at h
    cases j with
    | zero =>
      simp only [List.getElem?_cons_zero, List.getElem?_cons_succ, Option.some.injEq, Nat.zero_add] at h1 h2
      subst h1 h2
      exact memN_iff.1 h.1
    | succ j => exact chained_spec h.2 j x y (by simpa using h1) (by simpa using h2)

structure DInv (n : Nat) (w0 : World) (E0 : Env0) (ops : Array Oper) (sl0 : List (Nat × AV)) (es : List (Option (Nat × AV))) (ns : List Nat) (Hs : List Heap) (listed : Array Bool) (a : Act) (w : World) (q : Nat) (sl : List (Nat × AV)) : Prop where
  size : listed.size = ops.size
  qle : q ≤ ns.length
  cnt : ∀ j x, ns[j]? = some x → (listed.getD x false = true ↔ j < q)
  rel : SRel n w0 E0 ⟨sl, (Hs[q]?).getD []⟩ a w
  ent : ∀ i d v, listed.getD i false = true → (es[i]?).getD none = some (d, v) → look sl d = some v
  base : ∀ k v, look sl0 k = some v → (∀ i, listed.getD i false = true → dstOf ops i ≠ some k) → look sl k = some v
  clos : ∀ x, listed.getD x false = true → ∀ y ∈ aft ops x, listed.getD y false = true

theorem aft_of {i : Nat} {o : Oper} (h : ops[i]? = some o) {j : Nat} : j ∈ aft ops i ↔ ∃ e ∈ o.after, Region.binds .any e = true ∧ e.on = j := by
  simp only [aft, h, List.mem_map, List.mem_filter, Array.mem_toList_iff]
  constructor
  · rintro ⟨e, ⟨h1, h2⟩, h3⟩; exact ⟨e, h1, h2, h3⟩
  · rintro ⟨e, h1, h2, h3⟩; exact ⟨e, ⟨h1, h2⟩, h3⟩

theorem drawn_all {sl0 : List (Nat × AV)} {es : List (Option (Nat × AV))} {ns : List Nat} {Hs : List Heap} {L : List (Nat × Nat)} (hok : drawOk ops es ns L = true) (hst : AllP (StpAt P n w0 E0 ops Q sl0 es ns Hs) L)
    (k : ∀ a w, SRel n w0 E0 ⟨fin ops es sl0, (Hs[ns.length]?).getD []⟩ a w → ∃ s', SRel n w0 E0 s' a w ∧ Q .normal s') :
    ∀ (fuel : Nat) (listed : Array Bool) (a : Act) (w : World) (q : Nat) (sl : List (Nat × AV)), DInv n w0 E0 ops sl0 es ns Hs listed a w q sl → ((List.range ops.size).filter fun i => !listed.getD i false).length ≤ fuel →
      wpAny P .any ops (fun e a' w' => ∃ s', SRel n w0 E0 s' a' w' ∧ Q e s') fuel listed a w := by
  simp only [drawOk, Bool.and_eq_true, List.all_eq_true, List.mem_range] at hok
  obtain ⟨⟨⟨⟨⟨hch, hnd⟩, hcov⟩, hns⟩, hlow⟩, hes⟩ := hok
  have hsz : ∀ (listed : Array Bool) x, listed.getD x false = true → x < listed.size := by
    intro listed x h
    rcases Nat.lt_or_ge x listed.size with h' | h'
    · exact h'
    · simp [Array.getElem?_eq_none h'] at h
  have hinj : ∀ i j d, i < ops.size → j < ops.size → dstOf ops i = some d → dstOf ops j = some d → i = j := by
    intro i j d hi hj h1 h2
    exact nodupO_spec hnd i j d (by simp [hi, h1]) (by simp [hj, h2])
  have hent : ∀ i d v, i < ops.size → (es[i]?).getD none = some (d, v) → dstOf ops i = some d := by
    intro i d v hi h
    have h1 := hes i hi
    cases he : es[i]? with
    | none => rw [he] at h; simp at h
    | some e =>
      rw [he] at h h1
      simp only [Option.getD_some] at h
      subst h
      exact eqO_iff.1 h1
  -- where all has been done
  have done : ∀ (listed : Array Bool) (a : Act) (w : World) (q : Nat) (sl : List (Nat × AV)), DInv n w0 E0 ops sl0 es ns Hs listed a w q sl → (∀ i, i < ops.size → listed.getD i false = true) → ∃ s', SRel n w0 E0 s' a w ∧ Q .normal s' := by
    intro listed a w q sl hI hall
    have hq : q = ns.length := by
      rcases Nat.lt_or_ge q ns.length with h | h
      · obtain ⟨x, hx⟩ : ∃ x, ns[q]? = some x := ⟨_, List.getElem?_eq_getElem h⟩
        have h1 := hns x (List.mem_of_getElem? hx)
        have h2 := hall x (by simpa [Nat.blt_eq] using h1)
        have := (hI.cnt q x hx).1 h2
        omega
      · have := hI.qle; omega
    have hr := hI.rel
    rw [hq] at hr
    refine k a w (hr.le ?_)
    intro d v hv
    rcases look_append hv with h1 | h1
    · obtain ⟨j, hj1, hj2⟩ := List.mem_filterMap.1 (look_mem h1)
      exact hI.ent j d v (hall j (by simpa using hj1)) hj2
    · obtain ⟨h2, h3⟩ := look_filter (fun x => (List.range ops.size).all fun j => !eqO (dstOf ops j) x) h1
      refine hI.base d v h2 (fun i hi hd => ?_)
      have hlt : i < ops.size := by rw [← hI.size]; exact hsz _ _ hi
      simp only [List.all_eq_true, List.mem_range, Bool.not_eq_true'] at h3
      have := h3 i hlt
      rw [eqO_iff.2 hd] at this
      simp at this
  have ready_nil : ∀ (listed : Array Bool), listed.size = ops.size → Region.ready .any ops listed = [] → ∀ i, i < ops.size → listed.getD i false = true := by
    intro listed hs hr i
    induction i using Nat.strongRecOn with
    | _ i ih =>
      intro hi
      cases hl : listed.getD i false with
      | true => rfl
      | false =>
        exfalso
        have : i ∈ Region.ready .any ops listed := by
          rw [mem_ready]
          have hi' : i < listed.size := by omega
          refine ⟨?_, ops[i], by simp [hi], fun e he hb => ?_⟩
          · simp only [Array.getD_eq_getD_getElem?, Array.getElem?_eq_getElem hi', Option.getD_some] at hl ⊢
            exact hl
          · have hm : e.on ∈ aft ops i := (aft_of (by simp [hi])).2 ⟨e, he, hb, rfl⟩
            have hlt := hlow i hi e.on hm
            have hlt : e.on < i := by simpa [Nat.blt_eq] using hlt
            exact ih e.on hlt (by omega)
        rw [hr] at this
        simp at this
  intro fuel
  induction fuel with
  | zero =>
    intro listed a w q sl hI hf
    have hall : ∀ i, i < ops.size → listed.getD i false = true := by
      intro i hi
      cases hl : listed.getD i false with
      | true => rfl
      | false =>
        have : i ∈ (List.range ops.size).filter fun i => !listed.getD i false := by rw [List.mem_filter]; exact ⟨by simpa using hi, by simp only [hl, Bool.not_false]⟩
        have := List.length_pos_of_mem this
        omega
    refine ⟨?_, done listed a w q sl hI hall⟩
    rw [List.eq_nil_iff_forall_not_mem]
    intro i hi
    rw [mem_ready] at hi
    obtain ⟨h1, o, ho, _⟩ := hi
    have hlt := (Array.getElem?_eq_some_iff.1 ho).1
    have := hall i hlt
    have hi' : i < listed.size := by rw [hI.size]; exact hlt
    simp only [Array.getD_eq_getD_getElem?, Array.getElem?_eq_getElem hi', Option.getD_some] at this h1
    rw [this] at h1
    simp at h1
  | succ fuel ih =>
    intro listed a w q sl hI hf
    refine ⟨fun hr => done listed a w q sl hI (ready_nil listed hI.size hr), fun i hi => ?_⟩
    rw [mem_ready] at hi
    obtain ⟨hni, o, ho, hafter⟩ := hi
    have hlt := (Array.getElem?_eq_some_iff.1 ho).1
    have hi' : i < listed.size := by rw [hI.size]; exact hlt
    have hni : listed.getD i false = false := by
      simp only [Array.getD_eq_getD_getElem?, Array.getElem?_eq_getElem hi', Option.getD_some] at hni ⊢
      exact hni
    have haft : ∀ j ∈ aft ops i, listed.getD j false = true := by
      intro j hj
      obtain ⟨e, h1, h2, rfl⟩ := (aft_of ho).1 hj
      exact hafter e h1 h2
    have hself : ∀ j x, ns[j]? = some x → i = x → q = j := by
      intro j x hx e
      subst e
      have h1 : ¬ j < q := fun h => by have := (hI.cnt j i hx).2 h; rw [hni] at this; simp at this
      cases j with
      | zero => omega
      | succ j =>
        have hj : j < ns.length := by have := (List.getElem?_eq_some_iff.1 hx).1; omega
        obtain ⟨y, hy⟩ : ∃ y, ns[j]? = some y := ⟨_, List.getElem?_eq_getElem hj⟩
        have := (hI.cnt j y hy).1 (haft y (chained_spec hch j y i hy hx))
        omega
    have hokq : okq ops ns i q = true := by
      simp only [okq, List.all_eq_true, List.mem_range]
      intro j hj
      obtain ⟨x, hx⟩ : ∃ x, ns[j]? = some x := ⟨_, List.getElem?_eq_getElem hj⟩
      simp only [hx, Bool.and_eq_true, Bool.or_eq_true, Bool.not_eq_true']
      refine ⟨⟨?_, ?_⟩, ?_⟩
      · cases hm : memN x (aft ops i) with
        | false => exact .inl rfl
        | true => exact .inr (by simpa [Nat.blt_eq] using (hI.cnt j x hx).1 (haft x (memN_iff.1 hm)))
      · cases hm : memN i (aft ops x) with
        | false => exact .inl rfl
        | true =>
          refine .inr (Nat.ble_eq_true_of_le ?_)
          rcases Nat.lt_or_ge j q with h | h
          · have := hI.clos x ((hI.cnt j x hx).2 h) i (memN_iff.1 hm)
            rw [hni] at this
            simp at this
          · exact h
      · cases hm : Nat.beq i x with
        | false => exact .inl rfl
        | true =>
          refine .inr ?_
          rw [hself j x hx (Nat.eq_of_beq_eq_true hm)]
          exact Nat.beq_refl j
    have hL : (i, q) ∈ L := by
      simp only [covers, List.all_eq_true, List.mem_range] at hcov
      have := hcov i hlt q (by have := hI.qle; omega)
      rw [hokq] at this
      simp only [Bool.not_true, Bool.false_or, List.any_eq_true, Bool.and_eq_true] at this
      obtain ⟨x, h1, h2, h3⟩ := this
      obtain ⟨x1, x2⟩ := x
      have e1 := Nat.eq_of_beq_eq_true h2
      have e2 := Nat.eq_of_beq_eq_true h3
      simp only at e1 e2
      subst e1 e2
      exact h1
    obtain ⟨o', ho', hstp⟩ := AllP.mem hst (i, q) hL
    simp only at ho' hstp
    rw [ho] at ho'
    simp only [Option.some.injEq] at ho'
    subst ho'
    have hle : Le (vw ops es sl0 i) sl := by
      intro d v hv
      rcases look_append hv with h1 | h1
      · obtain ⟨j, hj1, hj2⟩ := List.mem_filterMap.1 (look_mem h1)
        exact hI.ent j d v (haft j hj1) hj2
      · obtain ⟨h2, h3⟩ := look_filter (fun x => (List.range ops.size).all fun j => !eqO (dstOf ops j) x || memN i (aft ops j)) h1
        refine hI.base d v h2 (fun i2 hi2 hd => ?_)
        have hlt2 : i2 < ops.size := by rw [← hI.size]; exact hsz _ _ hi2
        simp only [List.all_eq_true, List.mem_range, Bool.or_eq_true, Bool.not_eq_true'] at h3
        rcases h3 i2 hlt2 with h4 | h4
        · rw [eqO_iff.2 hd] at h4; simp at h4
        · have := hI.clos i2 hi2 i (memN_iff.1 h4)
          rw [hni] at this
          simp at this
    have hvo := hstp sl hle a w hI.rel
    -- what holds behind it
    have next : ∀ a' w', SRel n w0 E0 ⟨putE ((es[i]?).getD none) sl, (Hs[cond (memN i ns) (q + 1) q]?).getD []⟩ a' w' → wpAny P .any ops (fun e a' w' => ∃ s', SRel n w0 E0 s' a' w' ∧ Q e s') fuel (listed.setIfInBounds i true) a' w' := by
      intro a' w' hr
      have hget : ∀ x, (listed.setIfInBounds i true).getD x false = true ↔ x = i ∨ listed.getD x false = true := by
        intro x
        by_cases hx : x = i
        · subst hx
          simp [hi']
        · rw [getD_set_ne false (Ne.symm hx)]
          simp [hx]
      refine ih _ a' w' (cond (memN i ns) (q + 1) q) (putE ((es[i]?).getD none) sl) ⟨by simp [hI.size], ?_, ?_, hr, ?_, ?_, ?_⟩ ?_
      · cases hm : memN i ns with
        | false => exact hI.qle
        | true =>
          obtain ⟨j, hj⟩ := List.getElem?_of_mem (memN_iff.1 hm)
          have := hself j i hj rfl
          have := (List.getElem?_eq_some_iff.1 hj).1
          simp only [cond_true]
          omega
      · intro j x hx
        rw [hget, hI.cnt j x hx]
        cases hm : memN i ns with
        | false =>
          simp only [cond_false]
          constructor
          · rintro (rfl | h)
            · exact absurd (memN_iff.2 (List.mem_of_getElem? hx)) (by simp [hm])
            · exact h
          · exact .inr
        | true =>
          simp only [cond_true]
          obtain ⟨j0, hj0⟩ := List.getElem?_of_mem (memN_iff.1 hm)
          have hq0 := hself j0 i hj0 rfl
          constructor
          · rintro (rfl | h)
            · have := hself j x hx rfl; omega
            · omega
          · intro h
            rcases Nat.lt_or_ge j q with h2 | h2
            · exact .inr h2
            · have : j = j0 := by omega
              subst this
              rw [hj0] at hx
              simp only [Option.some.injEq] at hx
              exact .inl hx.symm
      · intro i2 d v h1 h2
        rw [hget] at h1
        cases he : (es[i]?).getD none with
        | none =>
          rcases h1 with rfl | h1
          · rw [he] at h2; simp at h2
          · exact hI.ent i2 d v h1 h2
        | some x =>
          obtain ⟨d0, v0⟩ := x
          simp only [putE, look_put]
          rcases h1 with rfl | h1
          · rw [he] at h2
            simp only [Option.some.injEq, Prod.mk.injEq] at h2
            rw [if_pos h2.1, h2.2]
          · have hlt2 : i2 < ops.size := by rw [← hI.size]; exact hsz _ _ h1
            rw [if_neg]
            · exact hI.ent i2 d v h1 h2
            · intro e
              subst e
              have := hinj i i2 d0 hlt hlt2 (hent i d0 v0 hlt he) (hent i2 d0 v hlt2 h2)
              subst this
              rw [hni] at h1
              simp at h1
      · intro d v h1 h2
        have hb := hI.base d v h1 (fun i2 hi2 => h2 i2 ((hget i2).2 (.inr hi2)))
        cases he : (es[i]?).getD none with
        | none => exact hb
        | some x =>
          obtain ⟨d0, v0⟩ := x
          simp only [putE, look_put]
          rw [if_neg]
          · exact hb
          · intro e
            subst e
            exact h2 i ((hget i).2 (.inl rfl)) (hent i d0 v0 hlt he)
      · intro x hx y hy
        rw [hget] at hx ⊢
        rcases hx with rfl | hx
        · exact .inr (haft y hy)
        · exact .inr (hI.clos x hx y hy)
      · have hsub : ((List.range ops.size).filter fun x => !(listed.setIfInBounds i true).getD x false).length < ((List.range ops.size).filter fun x => !listed.getD x false).length := by
          have hp : ∀ x, (!(listed.setIfInBounds i true).getD x false) = ((!listed.getD x false) && !decide (x = i)) := by
            intro x
            cases h1 : (listed.setIfInBounds i true).getD x false with
            | true =>
              rcases (hget x).1 h1 with h2 | h2
              · simp [h2]
              · rw [h2]; rfl
            | false =>
              have h2 : ¬ (x = i ∨ listed.getD x false = true) := fun h => by rw [(hget x).2 h] at h1; simp at h1
              have h3 : x ≠ i := fun e => h2 (.inl e)
              have h4 : listed.getD x false = false := by cases h5 : listed.getD x false with
                | true => exact absurd (.inr h5) h2
                | false => rfl
              rw [h4]
              simp [h3]
          have e : ((List.range ops.size).filter fun x => !(listed.setIfInBounds i true).getD x false) = ((List.range ops.size).filter fun x => !listed.getD x false).filter fun x => !decide (x = i) := by
            rw [List.filter_filter]
            congr 1
            funext x
            rw [hp x, Bool.and_comm]
          rw [e]
          refine List.length_filter_lt_length_iff_exists.2 ⟨i, ?_, by simp⟩
          rw [List.mem_filter]
          exact ⟨by simpa using hlt, by simp only [hni, Bool.not_false]⟩
        omega
    unfold wpOp
    rw [ho]
    simp only
    unfold wpList at hvo
    by_cases hwt : Region.wanted o (yielded ops a.tmps) = true
    · rw [if_pos hwt] at hvo ⊢
      rcases hvo with hvo | ⟨hvo1, a1, w1, s1, h1, h2⟩
      · refine .inl (Oper.wp_mono ?_ (wp_swap ?_ hvo))
        · rintro a' w' ⟨s1, h1, h2⟩
          have h2 : s1 = _ := h2
          subst h2
          exact next a' w' h1
        · rintro e a' w' hne ⟨s1, h1, h2⟩
          refine ⟨s1, h1, ?_⟩
          cases e with
          | normal => exact absurd rfl hne
          | exit id => exact h2
          | goto l => exact h2
          | ret => exact h2
          | panic c => exact h2
          | outgrown => exact h2
      · exact .inr ⟨hvo1, a1, w1, s1, h1, h2⟩
    · rw [if_neg hwt] at hvo ⊢
      obtain ⟨s1, h1, h2⟩ := hvo
      have h2 : s1 = _ := h2
      subst h2
      exact next _ _ h1

/-- A region that draws its order. -/
theorem VW.drawn {id : Nat} (hm : P.follows .mixedOrders = true) (es : List (Option (Nat × AV))) (ns : List Nat) (Hs : List Heap) (L : List (Nat × Nat)) (keep π : List Nat) (hok : drawOk ops es ns L = true) (h0 : (Hs[0]?).getD [] = s.H)
    (hst : AllP (StpAt P n w0 E0 ops Q s.sl es ns Hs) L) (he : (bif nodup π then some ((⟨fin ops es s.sl, (Hs[ns.length]?).getD []⟩ : St).ren keep π) else none) = some s') (k : Q .normal s') : VW P n w0 E0 (.region id ops true) Q s := by
  intro a w hs
  have hrep : ∀ x, (Array.replicate ops.size false).getD x false = false := by
    intro x
    rw [Array.getD_eq_getD_getElem?, Array.getElem?_replicate]
    split <;> rfl
  refine wp_region_any hm ?_
  refine drawn_all hok hst ?_ ops.size _ a _ 0 s.sl ⟨by simp, Nat.zero_le _, ?_, ?_, ?_, ?_, ?_⟩ ?_
  · intro a' w' hr
    cases hn : nodup π with
    | false => rw [hn] at he; simp at he
    | true =>
      rw [hn] at he
      simp only [cond_true, Option.some.injEq] at he
      subst he
      exact ⟨_, Gh.ren keep π hn a' w' hr, k⟩
  · intro j x hx
    rw [hrep]
    simp
  · rw [h0]
    exact hs.drew
  · intro i d v hi
    rw [hrep] at hi
    simp at hi
  · exact fun k v hv _ => hv
  · intro x hx
    rw [hrep] at hx
    simp at hx
  · exact Nat.le_trans (List.length_filter_le _ _) (by simp)

theorem Stp.eq {o : Oper} {e e' : Option (Nat × AV)} {H2 H3 : Heap} (h : Stp P n w0 E0 ops Q o view H e H2) (h1 : e = e') (h2 : H2 = H3) : Stp P n w0 E0 ops Q o view H e' H3 := by subst h1 h2; exact h

/-- A test's answer, told. -/
theorem Stp.lit {o : Oper} {d : Nat} {b c : Bool} {H2 : Heap} (h : Stp P n w0 E0 ops Q o view H (some (d, .lf (.v .bool b))) H2) (hb : b = c) : Stp P n w0 E0 ops Q o view H (some (d, .lf (.v .bool c))) H2 := by subst hb; exact h
end
end Go.Proofs.Ytgpddckjpokclaa.Vc
