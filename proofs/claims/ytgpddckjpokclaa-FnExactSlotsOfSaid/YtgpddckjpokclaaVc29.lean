/- A calculus of values over the model, part 29: the slice of a row of ours is lent. It speaks of any program. -/
import Derived.Test.YtgpddckjpokclaaVc28
namespace Go.Proofs.Ytgpddckjpokclaa.Vc
open Go Go.RowKit
set_option linter.unusedVariables false
set_option linter.unusedSimpArgs false

/-- Blocks below one cell of rows of ours. -/
structure Sub (E : Env) (id b0 k0 : Nat) (D : Nat → Prop) : Prop where
  lab : ∀ c, D c → ∃ q, E.κ c = some (.id id, q)
  up : ∀ c b k, D c → E.κ c = some (.id id, .inside b k) → (b = b0 ∧ k = k0) ∨ D b
  top : ∀ c, D c → E.κ c ≠ some (.id id, .top)
  down : ∀ b c k, D b → E.κ c = some (.id id, .inside b k) → D c

inductive Reach (E : Env) (id b1 : Nat) : Nat → Prop
  | here : Reach E id b1 b1
  | next {b c k : Nat} : Reach E id b1 b → E.κ c = some (.id id, .inside b k) → Reach E id b1 c

open Classical in
noncomputable def lendE (E : Env) (b0 k0 : Nat) (D : Nat → Prop) : Env := ⟨E.S, fun c => if D c then (E.κ c).map fun x => (.id 0, if x.2 = .inside b0 k0 then .top else x.2) else none⟩

open Classical in
noncomputable def giveE (E E' : Env) (id b0 k0 : Nat) (D : Nat → Prop) : Env := ⟨E'.S, fun c => match E'.κ c with
  | some (.id _, q) => some (.id id, if q = .top then .inside b0 k0 else q)
  | some (.res _, _) => none
  | none => if D c then none else E.κ c⟩

section
variable {P : Program} {T : Tab} {n : Nat} {w0 : World} {E0 : Env0} {s s' s'' : St} {ops : Array Oper} {Q : Exit → St → Prop} {rest : List Oper}
variable {w w' : World} {E E' : Env} {μ μ' : Nat → Value} {H H' : Heap}

theorem Rep.pcongr {r : Root} : ∀ (t : Ty) (x : t.den) (m : Md) (p p' : Nat → Pos) (g : Nat → Option Value), (∀ k, k < t.lv → p' k = p k) → Rep w E r t x m p g → Rep w E r t x m p' g
  | .int _, _, _, _, _, _, _, h => h
  | .bool, _, _, _, _, _, _, h => h
  | .str, _, _, _, _, _, _, h => h
  | .sl t, xs, m, p, p', g, hp, h => by
    have h0 := hp 0 (by simp [Ty.lv])
    simp only [Rep, h0] at h ⊢
    exact h
  | .pair a b, x, m, p, p', g, hp, h =>
    ⟨Rep.pcongr a x.1 m p p' g (fun k hk => hp k (by simp only [Ty.lv]; omega)) h.1, Rep.pcongr b x.2 m _ _ _ (fun k hk => hp _ (by simp only [Ty.lv]; omega)) h.2⟩

/-- What lies in cells whose blocks are left alone lies there still. -/
theorem Rep.stay {r : Root} (A : Pos → Prop) (hS : ∀ b, E.S b → E'.S b ∧ w'.heap[b]? = w.heap[b]?)
    (hκ : ∀ b q, A q → E.κ b = some (r, q) → E'.κ b = some (r, q) ∧ w'.heap[b]? = w.heap[b]? ∧ ∀ k, A (.inside b k))
    {t : Ty} {x : t.den} {m : Md} {p : Nat → Pos} {g g' : Nat → Option Value} (hp : ∀ k, k < t.lv → A (p k)) (hg : ∀ k v, k < t.lv → g k = some v → g' k = some v) (h : Rep w E r t x m p g) : Rep w' E' r t x m p g' := by
  have hpos := lv_pos t
  let p1 : Nat → Pos := fun k => if k < t.lv then p k else p 0
  have h1 : Rep w E r t x m p1 g := Rep.pcongr t x m p p1 g (fun k hk => by simp [p1, hk]) h
  have h2 : Rep w' E' r t x m p1 g' := by
    refine Rep.move A (fun q => q) hS (fun b q hq hb => ⟨(hκ b q hq hb).1, (hκ b q hq hb).2.1, fun k => ⟨(hκ b q hq hb).2.2 k, rfl⟩⟩) t x m p1 p1 g g' (fun _ => ⟨fun k => ?_, fun _ => rfl⟩) hg h1
    simp only [p1]
    split
    · exact hp k ‹_›
    · exact hp 0 hpos
  exact Rep.pcongr t x m p1 p g' (fun k hk => by simp [p1, hk]) h2

/-- A slice inside a value. -/
theorem leaf_sl {r : Root} : ∀ (t : Ty) (x : t.den) (j : Nat) (t' : Ty) (ys : List t'.den) (p : Nat → Pos) (g : Nat → Option Value), (leafs t x .fz)[j]? = some (.v (.sl t') ys) → Rep w E r t x .dp p g →
    Rep w E r (.sl t') ys .dp (fun k => p (k + j)) (fun k => g (k + j))
  | .int k, x, j, t', ys, p, g, h, hr => by cases j <;> simp [leafs] at h
  | .bool, x, j, t', ys, p, g, h, hr => by cases j <;> simp [leafs] at h
  | .str, x, j, t', ys, p, g, h, hr => by cases j <;> simp [leafs] at h
  | .sl t, x, j, t', ys, p, g, h, hr => by
    cases j with
    | zero =>
      simp only [leafs, List.getElem?_cons_zero, Option.some.injEq, Lf.v.injEq, Ty.sl.injEq] at h
      obtain ⟨rfl, h⟩ := h
      have h := eq_of_heq h
      subst h
      exact hr
    | succ j => simp [leafs] at h
  | .pair a b, x, j, t', ys, p, g, h, hr => by
    simp only [leafs] at h
    by_cases hj : j < a.lv
    · rw [List.getElem?_append_left (by rw [leafs_length]; exact hj)] at h
      exact leaf_sl a x.1 j t' ys p g h hr.1
    · rw [List.getElem?_append_right (by rw [leafs_length]; omega), leafs_length] at h
      have := leaf_sl b x.2 (j - a.lv) t' ys _ _ h hr.2
      have e : ∀ k : Nat, k + (j - a.lv) + a.lv = k + j := fun k => by omega
      simp only [e] at this
      exact this

/-- A slice inside a value is another one. -/
theorem leaf_set {r : Root} (A : Pos → Prop) (hS : ∀ b, E.S b → E'.S b ∧ w'.heap[b]? = w.heap[b]?)
    (hκ : ∀ b q, A q → E.κ b = some (r, q) → E'.κ b = some (r, q) ∧ w'.heap[b]? = w.heap[b]? ∧ ∀ k, A (.inside b k)) :
    ∀ (t : Ty) (x : t.den) (j : Nat) (t' : Ty) (ys ys' : List t'.den) (x' : t.den) (p : Nat → Pos) (g g' : Nat → Option Value), (leafs t x .fz)[j]? = some (.v (.sl t') ys) → setLf t x j (.v (.sl t') ys') .fz = some x' →
      (∀ k, k < t.lv → k ≠ j → A (p k)) → (∀ k v, k < t.lv → k ≠ j → g k = some v → g' k = some v) → Rep w E r t x .dp p g → Rep w' E' r (.sl t') ys' .dp (fun k => p (k + j)) (fun k => g' (k + j)) → Rep w' E' r t x' .dp p g'
  | .int k, x, j, t', ys, ys', x', p, g, g', h, hs, hp, hg, hr, hn => by cases j <;> simp [leafs] at h
  | .bool, x, j, t', ys, ys', x', p, g, g', h, hs, hp, hg, hr, hn => by cases j <;> simp [leafs] at h
  | .str, x, j, t', ys, ys', x', p, g, g', h, hs, hp, hg, hr, hn => by cases j <;> simp [leafs] at h
  | .sl t, x, j, t', ys, ys', x', p, g, g', h, hs, hp, hg, hr, hn => by
    cases j with
    | zero =>
      simp only [leafs, List.getElem?_cons_zero, Option.some.injEq, Lf.v.injEq, Ty.sl.injEq] at h
      obtain ⟨rfl, h⟩ := h
      simp only [setLf, setSl, dite_true, cast_eq, Option.some.injEq] at hs
      subst hs
      exact hn
    | succ j => simp [leafs] at h
  | .pair a b, x, j, t', ys, ys', x', p, g, g', h, hs, hp, hg, hr, hn => by
    simp only [leafs] at h
    simp only [setLf] at hs
    by_cases hj : j < a.lv
    · rw [List.getElem?_append_left (by rw [leafs_length]; exact hj)] at h
      rw [show Nat.blt j a.lv = true by simpa [Nat.blt_eq] using hj, cond_true, Option.map_eq_some_iff] at hs
      obtain ⟨z, h1, rfl⟩ := hs
      refine ⟨leaf_set A hS hκ a x.1 j t' ys ys' z p g g' h h1 (fun k hk => hp k (by simp only [Ty.lv]; omega)) (fun k v hk => hg k v (by simp only [Ty.lv]; omega)) hr.1 hn, ?_⟩
      exact Rep.stay A hS hκ (fun k hk => hp _ (by simp only [Ty.lv]; omega) (by omega)) (fun k v hk => hg _ v (by simp only [Ty.lv]; omega) (by omega)) hr.2
    · rw [List.getElem?_append_right (by rw [leafs_length]; omega), leafs_length] at h
      rw [show Nat.blt j a.lv = false by rw [Bool.eq_false_iff]; simpa [Nat.blt_eq] using hj, cond_false, Option.map_eq_some_iff] at hs
      obtain ⟨z, h1, rfl⟩ := hs
      have e : ∀ k : Nat, k + (j - a.lv) + a.lv = k + j := fun k => by omega
      refine ⟨Rep.stay A hS hκ (fun k hk => hp _ (by simp only [Ty.lv]; omega) (by omega)) (fun k v hk => hg _ v (by simp only [Ty.lv]; omega) (by omega)) hr.1, ?_⟩
      refine leaf_set A hS hκ b x.2 (j - a.lv) t' ys ys' z _ _ _ h h1 (fun k hk hk2 => hp _ (by simp only [Ty.lv]; omega) (by omega)) (fun k v hk hk2 => hg _ v (by simp only [Ty.lv]; omega) (by omega)) hr.2 ?_
      simp only [e]
      exact hn

/-- A row's slice, lent. -/
theorem sub_ex (hM : MR w E μ H 0) {id b0 k0 : Nat} {t' : Ty} {ys : List t'.den} {p : Nat → Pos} {g : Nat → Option Value} {y : Value} (hr : Rep w E (.id id) (.sl t') ys .dp p g) (hp : p 0 = .inside b0 k0) (hb0 : E.κ b0 = some (.id id, .top)) (hy : g 0 = some y) :
    ∃ D, Sub E id b0 k0 D ∧ MR w (lendE E b0 k0 D) (fun _ => y) [some (.arr 0 t' ys .dp)] 0 := by
  classical
  obtain ⟨v, hv, hr⟩ := hr
  rw [hy] at hv
  simp only [Option.some.injEq] at hv
  subst hv
  have mk : ∀ D, Sub E id b0 k0 D → Rep w (lendE E b0 k0 D) (.id 0) (.sl t') ys .dp (fun _ => .top) (at0 y) → MR w (lendE E b0 k0 D) (fun _ => y) [some (.arr 0 t' ys .dp)] 0 := by
    intro D hD hN
    have hk : ∀ c, (lendE E b0 k0 D).κ c ≠ none → E.κ c ≠ none := by
      intro c hc e
      simp only [lendE, e, Option.map_none, ite_self] at hc
      exact hc rfl
    refine ⟨fun c hc => ?_, hM.ltS, fun c hc => hM.ltκ c (hk c hc), fun c r q hc => ?_, fun i blk hi => ?_⟩
    · simp only [lendE, hM.apart c hc, Option.map_none, ite_self]
    · simp only [lendE] at hc
      split at hc
      · simp only [Option.map_eq_some_iff, Prod.mk.injEq] at hc
        obtain ⟨_, _, h1, _⟩ := hc
        exact .inl ⟨0, h1.symm, by simp⟩
      · simp at hc
    · cases i with
      | zero =>
        simp only [List.getElem?_cons_zero, Option.some.injEq] at hi
        subst hi
        exact ⟨by simp, hN⟩
      | succ i => simp at hi
  rcases hr with ⟨h, _⟩ | ⟨_, ⟨hn, a, rfl⟩ | ⟨b1, c, arr, ty, rfl, h2, h3, h4, h5, h6⟩⟩
  · cases h
  · have hD : Sub E id b0 k0 (fun _ => False) := ⟨fun _ h => h.elim, fun _ _ _ h => h.elim, fun _ h => h.elim, fun _ _ _ h => h.elim⟩
    exact ⟨_, hD, mk _ hD ⟨_, rfl, .inr ⟨by simp, .inl ⟨hn, a, rfl⟩⟩⟩⟩
  · rw [hp] at h5
    have hlab : ∀ c, Reach E id b1 c → ∃ q, E.κ c = some (.id id, q) := by
      intro c hc
      cases hc with
      | here => exact ⟨_, h5⟩
      | next _ h => exact ⟨_, h⟩
    have htop : ∀ c, Reach E id b1 c → E.κ c ≠ some (.id id, .top) := by
      intro c hc e
      cases hc with
      | here => rw [h5] at e; simp at e
      | next _ h => rw [h] at e; simp at e
    have hD : Sub E id b0 k0 (Reach E id b1) := by
      refine ⟨hlab, fun c b k hc e => ?_, htop, fun b c k hb e => .next hb e⟩
      cases hc with
      | here =>
        rw [h5] at e
        simp only [Option.some.injEq, Prod.mk.injEq, true_and, Pos.inside.injEq] at e
        exact .inl ⟨e.1.symm, e.2.symm⟩
      | next hb h =>
        rw [h] at e
        simp only [Option.some.injEq, Prod.mk.injEq, true_and, Pos.inside.injEq] at e
        obtain ⟨rfl, _⟩ := e
        exact .inr hb
    have hnb0 : ¬ Reach E id b1 b0 := fun h => htop b0 h hb0
    refine ⟨_, hD, mk _ hD ⟨_, rfl, .inr ⟨by simp, .inr ⟨b1, c, arr, ty, rfl, h2, h3, h4, ?_, fun i hi => ?_⟩⟩⟩⟩
    · simp only [lendE, if_pos (Reach.here (E := E) (id := id) (b1 := b1)), h5, Option.map_some, if_true]
    · refine Rep.move (E := E) (E' := lendE E b0 k0 (Reach E id b1)) (fun q => ∃ b k, q = Pos.inside b k ∧ Reach E id b1 b) (fun q => q) (fun b hb => ⟨hb, rfl⟩) (fun c' q hq hc => ?_) t' _ _ _ _ _ _ (fun _ => ⟨fun k => ⟨_, _, rfl, .here⟩, fun _ => rfl⟩) (fun _ _ _ h => h) (h6 i hi)
      obtain ⟨b, k, rfl, hb⟩ := hq
      have hc' := Reach.next hb hc
      refine ⟨?_, rfl, fun k => ⟨⟨_, _, rfl, hc'⟩, rfl⟩⟩
      have hne : ¬ (Pos.inside b k = Pos.inside b0 k0) := fun e => by
        simp only [Pos.inside.injEq] at e
        exact hnb0 (e.1 ▸ hb)
      simp only [lendE, if_pos hc', hc, Option.map_some, if_neg hne]

/-- Behind a call that was lent a row's slice. -/
theorem give_back (hM : MR w E μ H 0) {id cur i j b0 : Nat} {e : Ty} {xs : List e.den} (hH : H[id]? = some (some (.arr cur e xs .dp))) (hi : i < xs.length) {t' : Ty} {ys ys' : List t'.den} {x' : e.den} {c0 : Nat} {arr0 : Array Value} {ty0 : TypeId}
    (hμ : μ id = .slice (some ⟨b0, 0, none⟩) xs.length c0) (hcap : xs.length ≤ c0) (hheap : w.heap[b0]? = some (.cells arr0 ty0 (0, 0))) (hsz : arr0.size = c0 * e.lv) (hκ0 : E.κ b0 = some (.id id, .top))
    (hrows : ∀ i (h : i < xs.length), Rep w E (.id id) e xs[i] .dp (fun j => .inside b0 (i * e.lv + j)) (fun j => cellAt w b0 (i * e.lv + j)))
    (hj : j < e.lv) (hget : (leafs e xs[i] .fz)[j]? = some (.v (.sl t') ys)) (hset : setLf e xs[i] j (.v (.sl t') ys') .fz = some x') {y : Value} (hy : cellAt w b0 (i * e.lv + j) = some y)
    {D : Nat → Prop} (hD : Sub E id b0 (i * e.lv + j) D) (hX : Ext w (lendE E b0 (i * e.lv + j) D) w' E') {v1 : Nat} (hM1 : MR w' E' μ' [some (.arr v1 t' ys' .dp)] 0) (hμ1 : μ' 0 = y) :
    MR w' (giveE E E' id b0 (i * e.lv + j) D) μ (H.set id (some (.arr cur e (xs.set i x') .dp))) 0 ∧ Ext w E w' (giveE E E' id b0 (i * e.lv + j) D) ∧ (∀ b, E.S b → (giveE E E' id b0 (i * e.lv + j) D).S b ∧ w'.heap[b]? = w.heap[b]?) ∧ KpH μ μ H (H.set id (some (.arr cur e (xs.set i x') .dp))) := by
  classical
  have hidlt : id < H.length := (List.getElem?_eq_some_iff.1 hH).1
  have hE1 : ∀ c, (lendE E b0 (i * e.lv + j) D).κ c ≠ none → D c := by
    intro c hc
    by_cases h : D c
    · exact h
    · simp only [lendE, if_neg h] at hc
      exact absurd rfl hc
  have hold : ∀ c, c < w.heap.size → ¬ D c → E'.κ c = none ∧ w'.heap[c]? = w.heap[c]? := by
    intro c hc hd
    have h1 : (lendE E b0 (i * e.lv + j) D).κ c = none := by simp only [lendE, if_neg hd]
    refine ⟨?_, hX.block c hc h1⟩
    cases hk : E'.κ c with
    | none => rfl
    | some x =>
      rcases hX.own c (by simp [hk]) with h | h
      · exact absurd h1 h
      · omega
  have hSD : ∀ c, E.S c → ¬ D c := fun c hc hd => by
    obtain ⟨q, hq⟩ := hD.lab c hd
    have := hM.apart c hc
    rw [hq] at this
    simp at this
  have hS : ∀ b, E.S b → (giveE E E' id b0 (i * e.lv + j) D).S b ∧ w'.heap[b]? = w.heap[b]? := fun b hb => ⟨hX.grow b hb, (hold b (hM.ltS b hb) (hSD b hb)).2⟩
  have hkept : ∀ c r q, E.κ c = some (r, q) → ¬ D c → (giveE E E' id b0 (i * e.lv + j) D).κ c = some (r, q) ∧ w'.heap[c]? = w.heap[c]? := by
    intro c r q hc hd
    obtain ⟨h1, h2⟩ := hold c (hM.ltκ c (by simp [hc])) hd
    refine ⟨?_, h2⟩
    simp only [giveE, h1, if_neg hd, hc]
  have hK : KpH μ μ H (H.set id (some (.arr cur e (xs.set i x') .dp))) := KpH.set hH (by simp [Kp])
  have hnb0 : ¬ D b0 := fun h => hD.top b0 h hκ0
  obtain ⟨hb1, hb2⟩ := hold b0 (hM.ltκ b0 (by simp [hκ0])) hnb0
  have hNB := hM1.blks 0 _ rfl
  refine ⟨?_, ?_, hS, hK⟩
  · refine MR.step hM (fun c hc => ?_) hM1.ltS (fun c hc => ?_) (fun c r q hc => ?_) hS hK (fun i' blk hb => ?_)
    · have h1 : E'.κ c = none := hM1.apart c hc
      simp only [giveE, h1]
      by_cases hd : D c
      · rw [if_pos hd]
      · rw [if_neg hd]
        cases hk : E.κ c with
        | none => rfl
        | some x =>
          exfalso
          rcases hX.from_ c hc with h | h | h
          · have := hM.apart c h
            rw [hk] at this
            simp at this
          · exact hd (hE1 c h)
          · have := hM.ltκ c (by simp [hk])
            omega
    · by_cases h1 : E'.κ c = none
      · simp only [giveE, h1] at hc
        split at hc
        · simp at hc
        · have := hM.ltκ c hc
          have := hX.size
          omega
      · exact hM1.ltκ c h1
    · simp only [giveE] at hc
      split at hc
      · simp only [Option.some.injEq, Prod.mk.injEq] at hc
        exact .inl ⟨id, hc.1.symm, by simpa using hidlt⟩
      · simp at hc
      · split at hc
        · simp at hc
        · simpa using hM.roots c r q hc
    · by_cases hid : i' = id
      · subst hid
        simp only [List.getElem?_set_self hidlt, Option.some.injEq] at hb
        subst hb
        refine .inr ⟨by simp, _, rfl, .inr ⟨by simp, .inr ⟨b0, c0, arr0, ty0, by simpa [at0] using hμ, by simpa using hcap, hb2.trans hheap, hsz, (hkept b0 _ _ hκ0 hnb0).1, fun i2 hi2 => ?_⟩⟩⟩
        have hi3 : i2 < xs.length := by simpa using hi2
        have hκA : ∀ b q, (q ≠ Pos.top ∧ q ≠ .inside b0 (i * e.lv + j) ∧ ∀ b k, q = .inside b k → ¬ D b) → E.κ b = some (.id i', q) → (giveE E E' i' b0 (i * e.lv + j) D).κ b = some (.id i', q) ∧ w'.heap[b]? = w.heap[b]? ∧ ∀ k, (Pos.inside b k ≠ Pos.top ∧ Pos.inside b k ≠ .inside b0 (i * e.lv + j) ∧ ∀ b' k', Pos.inside b k = .inside b' k' → ¬ D b') := by
          intro b q ⟨q1, q2, q3⟩ hb
          have hnd : ¬ D b := by
            intro hd
            cases q with
            | top => exact q1 rfl
            | inside b2 k2 =>
              rcases hD.up b b2 k2 hd hb with ⟨rfl, rfl⟩ | h
              · exact q2 rfl
              · exact q3 b2 k2 rfl h
          obtain ⟨h1, h2⟩ := hkept b _ _ hb hnd
          refine ⟨h1, h2, fun k => ⟨by simp, fun e' => ?_, fun b' k' e' => ?_⟩⟩
          · simp only [Pos.inside.injEq] at e'
            obtain ⟨rfl, _⟩ := e'
            rw [hκ0] at hb
            simp only [Option.some.injEq, Prod.mk.injEq, true_and] at hb
            exact q1 hb.symm
          · simp only [Pos.inside.injEq] at e'
            obtain ⟨rfl, _⟩ := e'
            exact hnd
        have hcells : ∀ k v, cellAt w b0 k = some v → cellAt w' b0 k = some v := fun k v h => by rw [cellAt_eq hb2]; exact h
        have hA : ∀ k, k ≠ i * e.lv + j → (Pos.inside b0 k ≠ Pos.top ∧ Pos.inside b0 k ≠ .inside b0 (i * e.lv + j) ∧ ∀ b' k', Pos.inside b0 k = .inside b' k' → ¬ D b') := by
          intro k hk
          refine ⟨by simp, fun e' => ?_, fun b' k' e' => ?_⟩
          · simp only [Pos.inside.injEq, true_and] at e'
            exact hk e'
          · simp only [Pos.inside.injEq] at e'
            obtain ⟨rfl, _⟩ := e'
            exact hnb0
        by_cases hii : i2 = i
        · subst hii
          simp only [List.getElem_set_self]
          refine leaf_set (w := w) (E := E) _ hS hκA e xs[i2] j t' ys ys' x' _ _ _ hget hset (fun k hk hkj => hA _ (by omega)) (fun k v hk hkj hv => hcells _ v hv) (hrows i2 hi3) ?_
          refine Rep.pcongr (.sl t') ys' .dp (fun _ => .inside b0 (i2 * e.lv + j)) _ _ (fun k hk => by
            have : k = 0 := by simp [Ty.lv] at hk; omega
            subst this
            rw [Nat.zero_add]) ?_
          refine Rep.move (E := E') (E' := giveE E E' i' b0 (i2 * e.lv + j) D) (fun _ => True) (fun q => if q = .top then .inside b0 (i2 * e.lv + j) else q) (fun b hb => ⟨hb, rfl⟩) (fun b q _ hq => ⟨?_, rfl, fun k => ⟨trivial, by simp⟩⟩) (.sl t') ys' .dp (fun _ => .top) (fun _ => .inside b0 (i2 * e.lv + j)) (at0 (μ' 0)) _ (fun _ => ⟨fun _ => trivial, fun k => (if_pos rfl).symm⟩) ?_ hNB.2
          · simp only [giveE, hq]
          · intro k v hk hv
            have : k = 0 := by simp [Ty.lv] at hk; omega
            subst this
            simp only [at0, if_true, Option.some.injEq] at hv
            rw [← hv, hμ1, Nat.zero_add]
            exact hcells _ _ hy
        · simp only [List.getElem_set_ne (Ne.symm hii)]
          refine Rep.stay (w := w) (E := E) _ hS hκA (fun k hk => hA _ ?_) (fun k v hk hv => hcells _ v hv) (hrows i2 hi3)
          rcases Nat.lt_or_ge i2 i with hlt | hge
          · have : (i2 + 1) * e.lv ≤ i * e.lv := Nat.mul_le_mul_right _ hlt
            rw [Nat.add_mul, Nat.one_mul] at this
            omega
          · have : (i + 1) * e.lv ≤ i2 * e.lv := Nat.mul_le_mul_right _ (by omega)
            rw [Nat.add_mul, Nat.one_mul] at this
            omega
      · rw [List.getElem?_set_ne (Ne.symm hid)] at hb
        refine .inl ⟨hb, rfl, fun b q hq => hkept b _ q hq (fun hd => ?_)⟩
        obtain ⟨q', hq'⟩ := hD.lab b hd
        rw [hq] at hq'
        simp only [Option.some.injEq, Prod.mk.injEq, Root.id.injEq] at hq'
        exact hid hq'.1
  · refine ⟨hX.os, hX.tape, hX.output, hX.size, fun b hb hn => (hold b hb (fun hd => ?_)).2, fun b hb => (hS b hb).1, fun b hb => ?_, fun b hb => ?_⟩
    · obtain ⟨q, hq⟩ := hD.lab b hd
      rw [hn] at hq
      simp at hq
    · rcases hX.from_ b hb with h | h | h
      · exact .inl h
      · obtain ⟨q, hq⟩ := hD.lab b (hE1 b h)
        exact .inr (.inl (by simp [hq]))
      · exact .inr (.inr h)
    · by_cases h1 : E'.κ b = none
      · simp only [giveE, h1] at hb
        split at hb
        · simp at hb
        · exact .inl hb
      · rcases hX.own b h1 with h | h
        · obtain ⟨q, hq⟩ := hD.lab b (hE1 b h)
          exact .inl (by simp [hq])
        · exact .inr h
end
end Go.Proofs.Ytgpddckjpokclaa.Vc
