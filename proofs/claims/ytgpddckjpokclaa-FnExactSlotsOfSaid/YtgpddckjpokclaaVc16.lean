/- A calculus of values over the model, sixteenth part: the state told in other words (names forgotten and turned, rows frozen, an empty slice taken as ours), and loops. It speaks of any program. -/
import Derived.Test.YtgpddckjpokclaaVc15
namespace Go.Proofs.Ytgpddckjpokclaa.Vc
open Go Go.RowKit
set_option linter.unusedVariables false
set_option linter.unusedSimpArgs false

def ix : List Nat → Nat → Option Nat
  | [], _ => none
  | j :: l, i => cond (Nat.beq j i) (some 0) ((ix l i).map (· + 1))

def Lf.ren (H : Heap) (π : List Nat) : Lf → Lf
  | .hd id ver rng => match ix π id with
    | some i => match H[id]? with
      | some (some (.arr cur _ _ _)) => cond (Nat.beq ver cur) (.hd i 0 rng) .any
      | _ => .any
    | none => .any
  | .ptr id ver i j => match ix π id with
    | some i' => match H[id]? with
      | some (some (.box _ _)) => .ptr i' 0 i j
      | some (some (.arr cur _ _ _)) => cond (Nat.beq ver cur) (.ptr i' 0 i j) .any
      | _ => .any
    | none => .any
  | a => a

def SV.ren (H : Heap) (π : List Nat) : SV → SV
  | .lf a => .lf (a.ren H π)
  | .agg l => .agg (l.map (Lf.ren H π))

def AV.ren (H : Heap) (π : List Nat) : AV → AV
  | .lf a => .lf (a.ren H π)
  | .agg l => .agg (l.map (Lf.ren H π))
  | .tup l => .tup (l.map (SV.ren H π))
  | .clo f l => .clo f (l.map (SV.ren H π))
  | .unk => .unk

def Blk.ren (H : Heap) (π : List Nat) : Blk → Blk
  | .box l t => .box (l.map (Lf.ren H π)) t
  | .arr _ t xs m => .arr 0 t xs m

def renH (H : Heap) (π : List Nat) : Heap := π.map fun id => match H[id]? with
  | some (some b) => some (b.ren H π)
  | _ => none

def renSl (H : Heap) (π : List Nat) (sl : List (Nat × AV)) : List Nat → List (Nat × AV)
  | [] => []
  | k :: ks => match look sl k with
    | some v => (k, v.ren H π) :: renSl H π sl ks
    | none => renSl H π sl ks

/-- Slots kept, blocks kept, in this order. -/
def St.ren (s : St) (keep π : List Nat) : St := ⟨renSl s.H π s.sl keep, renH s.H π⟩

def nodup : List Nat → Bool
  | [] => true
  | i :: l => (match ix l i with | none => true | some _ => false) && nodup l

/-- One state, told in other words. -/
def Gh (n : Nat) (w0 : World) (E0 : Env0) (s s' : St) : Prop := ∀ a w, SRel n w0 E0 s a w → SRel n w0 E0 s' a w

section
variable {P : Program} {T : Tab} {n : Nat} {w0 : World} {E0 : Env0} {s s' s'' : St} {ops : Array Oper} {Q : Exit → St → Prop} {rest : List Oper}
variable {w w' : World} {E E' : Env} {μ μ' : Nat → Value} {H H' : Heap}

theorem Gh.refl : Gh n w0 E0 s s := fun _ _ h => h
theorem Gh.trans (h1 : Gh n w0 E0 s s') (h2 : Gh n w0 E0 s' s'') : Gh n w0 E0 s s'' := fun a w h => h2 a w (h1 a w h)
theorem VW.gh {c : Code} (h : Gh n w0 E0 s s') (k : VW P n w0 E0 c Q s') : VW P n w0 E0 c Q s := fun a w hs => k a w (h a w hs)
theorem VO.gh (h : Gh n w0 E0 s s') (k : VO P n w0 E0 ops Q rest s') : VO P n w0 E0 ops Q rest s := fun a w hs => k a w (h a w hs)

/-- A loop whose state is told in other words at the end of each round. -/
theorem VW.loopG {c : Code} (I : Nat → St → Prop) (k0 : Nat) {s0 : St} (h0 : Gh n w0 E0 s s0) (h1 : I k0 s0)
    (round : ∀ k s, I k s → VW P n w0 E0 c (thenQ (fun s' => ∃ k' s'', k' < k ∧ Gh n w0 E0 s' s'' ∧ I k' s'') Q) s) : VW P n w0 E0 (.loop c) Q s := by
  refine VW.loop (fun k s => ∃ s0, Gh n w0 E0 s s0 ∧ I k s0) k0 ⟨s0, h0, h1⟩ ?_
  rintro k s ⟨s0, h2, h3⟩
  refine VW.gh h2 ((round k s0 h3).mono ?_)
  intro e s' h
  cases e with
  | normal =>
    obtain ⟨k', s'', a1, a2, a3⟩ := h
    exact ⟨k', a1, s'', a2, a3⟩
  | exit id => exact h
  | goto l => exact h
  | ret => exact h
  | panic c => exact h
  | outgrown => exact h

theorem ix_some : ∀ {π : List Nat} {i k : Nat}, ix π i = some k → π[k]? = some i
  | [], _, _, h => by simp [ix] at h
  | j :: l, i, k, h => by
    simp only [ix] at h
    cases hb : Nat.beq j i with
    | true =>
      rw [hb] at h
      simp only [cond_true, Option.some.injEq] at h
      subst h
      simp [Nat.eq_of_beq_eq_true hb]
    | false =>
      rw [hb] at h
      simp only [cond_false, Option.map_eq_some_iff] at h
      obtain ⟨k', h1, rfl⟩ := h
      simpa using ix_some h1

theorem ix_of : ∀ {π : List Nat} {i k : Nat}, nodup π = true → π[k]? = some i → ix π i = some k
  | [], _, _, _, h => by simp at h
  | j :: l, i, 0, hn, h => by
    simp only [List.getElem?_cons_zero, Option.some.injEq] at h
    subst h
    simp only [ix, Nat.beq_refl, cond_true]
  | j :: l, i, k + 1, hn, h => by
    simp only [nodup, Bool.and_eq_true] at hn
    have h1 := ix_of hn.2 (by simpa using h)
    simp only [ix]
    cases hb : Nat.beq j i with
    | true =>
      have := Nat.eq_of_beq_eq_true hb
      subst this
      rw [h1] at hn
      simp at hn
    | false => simp only [cond_false, h1, Option.map_some]

def renE (E : Env) (π : List Nat) : Env := ⟨E.S, fun b => match E.κ b with
  | some (.id i, q) => (ix π i).map fun k => (.id k, q)
  | o => o⟩

theorem renH_at {π : List Nat} {i id : Nat} (h : π[i]? = some id) {b : Blk} (hb : H[id]? = some (some b)) : (renH H π)[i]? = some (some (b.ren H π)) := by
  simp only [renH, List.getElem?_map, h, Option.map_some, hb]

theorem Lf.ren_LR {π : List Nat} {a : Lf} {y : Value} (h : LR w E μ H a y) : LR w (renE E π) (fun i => μ (π.getD i 0)) (renH H π) (a.ren H π) y := by
  have hany : LR w (renE E π) (fun i => μ (π.getD i 0)) (renH H π) .any y := LR_one h
  cases a with
  | v t x =>
    have h' : Rep w E (.res 0) t x .fz (fun _ => .top) (at0 y) := h
    exact Rep.fz (E := E) (E' := renE E π) (fun b hb => ⟨hb, rfl⟩) t x (fun _ _ _ h => h) h'
  | nil => exact h
  | fp t x j =>
    obtain ⟨b, o, h1, h2, h3⟩ := h
    exact ⟨b, o, h1, h2, Rep.fz (E := E) (E' := renE E π) (fun b hb => ⟨hb, rfl⟩) t x (fun _ _ _ h => h) h3⟩
  | any => exact h
  | hd id ver rng =>
    simp only [Lf.ren]
    cases hi : ix π id with
    | none => exact hany
    | some i =>
      have hπ := ix_some hi
      simp only
      cases hb : H[id]? with
      | none => exact hany
      | some b =>
        cases b with
        | none => exact hany
        | some b =>
          cases b with
          | box l t => exact hany
          | arr cur t xs m =>
            simp only
            cases hv : Nat.beq ver cur with
            | false => exact hany
            | true =>
              simp only [LR, hb] at h
              simp only [cond_true, LR, renH_at hπ hb, Blk.ren, Nat.le_refl, true_and]
              refine ⟨h.1, fun _ => ?_⟩
              have := h.2.2 (Nat.eq_of_beq_eq_true hv)
              simpa [List.getD, hπ] using this
  | ptr id ver i j =>
    simp only [Lf.ren]
    cases hi : ix π id with
    | none => exact hany
    | some i' =>
      have hπ := ix_some hi
      simp only
      cases hb : H[id]? with
      | none => exact hany
      | some b =>
        cases b with
        | none => exact hany
        | some b =>
          cases b with
          | box l t =>
            simp only [LR, hb] at h
            simp only [LR, renH_at hπ hb, Blk.ren]
            refine ⟨h.1, ?_⟩
            simpa [List.getD, hπ] using h.2
          | arr cur t xs m =>
            simp only
            cases hv : Nat.beq ver cur with
            | false => exact hany
            | true =>
              simp only [LR, hb] at h
              simp only [cond_true, LR, renH_at hπ hb, Blk.ren, Nat.le_refl, true_and]
              refine ⟨h.1, fun _ => ?_⟩
              have := h.2.2 (Nat.eq_of_beq_eq_true hv)
              simpa [List.getD, hπ] using this

theorem All2.map_left {α β γ : Type} {R : α → β → Prop} {R' : γ → β → Prop} {f : α → γ} (hf : ∀ x y, R x y → R' (f x) y) : ∀ {xs : List α} {ys : List β}, All2 R xs ys → All2 R' (xs.map f) ys
  | _, _, .nil => .nil
  | _, _, .cons h1 h2 => .cons (hf _ _ h1) (All2.map_left hf h2)

theorem SV.ren_SR {π : List Nat} {a : SV} {y : Value} (h : SR w E μ H a y) : SR w (renE E π) (fun i => μ (π.getD i 0)) (renH H π) (a.ren H π) y := by
  cases a with
  | lf a => exact Lf.ren_LR (a := a) h
  | agg l => obtain ⟨arr, h1, h2⟩ := h; exact ⟨arr, h1, h2.map_left fun _ _ h => Lf.ren_LR h⟩

theorem AV.ren_AR {π : List Nat} {a : AV} {y : Value} (h : AR w E μ H a y) : AR w (renE E π) (fun i => μ (π.getD i 0)) (renH H π) (a.ren H π) y := by
  cases a with
  | lf a => exact Lf.ren_LR (a := a) h
  | agg l => obtain ⟨arr, h1, h2⟩ := h; exact ⟨arr, h1, h2.map_left fun _ _ h => Lf.ren_LR h⟩
  | tup l => obtain ⟨arr, h1, h2⟩ := h; exact ⟨arr, h1, h2.map_left fun _ _ h => SV.ren_SR h⟩
  | clo f l => obtain ⟨arr, h1, h2⟩ := h; exact ⟨arr, h1, h2.map_left fun _ _ h => SV.ren_SR h⟩
  | unk => exact h

theorem renSl_look {π : List Nat} {sl : List (Nat × AV)} : ∀ {keep : List Nat} {k : Nat} {v : AV}, look (renSl H π sl keep) k = some v → ∃ u, look sl k = some u ∧ v = u.ren H π
  | [], _, _, h => by simp [renSl, look] at h
  | j :: ks, k, v, h => by
    simp only [renSl] at h
    split at h
    · rename_i u hu
      simp only [look_put] at h
      split at h
      · rename_i e
        subst e
        simp only [Option.some.injEq] at h
        exact ⟨u, hu, h.symm⟩
      · exact renSl_look h
    · exact renSl_look h

theorem Gh.ren (keep π : List Nat) (hn : nodup π = true) : Gh n w0 E0 s (s.ren keep π) := by
  intro a w hs
  obtain ⟨E, μ, hA⟩ := hs.at
  have hM := hA.mr
  have hκ1 : ∀ b i q, (renE E π).κ b = some (.id i, q) → ∃ j, E.κ b = some (.id j, q) ∧ ix π j = some i := by
    intro b i q h
    simp only [renE] at h
    split at h
    · rename_i j q' hj
      simp only [Option.map_eq_some_iff, Prod.mk.injEq, Root.id.injEq] at h
      obtain ⟨k, h1, h2, h3⟩ := h
      subst h2 h3
      exact ⟨j, hj, h1⟩
    · rename_i hne
      exact absurd h (hne i q)
  have hκ2 : ∀ b, (renE E π).κ b ≠ none → E.κ b ≠ none := by
    intro b h e
    simp only [renE, e] at h
    exact h rfl
  refine ⟨hA.size, hA.defers, hA.apart, renE E π, fun i => μ (π.getD i 0), ⟨?_, hM.ltS, fun b h => hM.ltκ b (hκ2 b h), ?_, ?_⟩, ?_, ?_⟩
  · intro b hb
    have := hM.apart b hb
    simp only [renE, this]
  · intro b r q h
    simp only [renE] at h
    split at h
    · rename_i j q' hj
      simp only [Option.map_eq_some_iff, Prod.mk.injEq] at h
      obtain ⟨k, h1, h2, h3⟩ := h
      refine .inl ⟨k, h2.symm, ?_⟩
      have := (List.getElem?_eq_some_iff.1 (ix_some h1)).1
      simpa [St.ren, renH] using this
    · rename_i hne
      rcases hM.roots b r q h with ⟨m, rfl, _⟩ | h1
      · exact absurd h (hne m q)
      · exact .inr h1
  · intro i blk h
    simp only [St.ren, renH, List.getElem?_map, Option.map_eq_some_iff] at h
    obtain ⟨id, h1, h2⟩ := h
    split at h2
    · rename_i b hb
      simp only [Option.some.injEq] at h2
      subst h2
      have hN := hM.blks id b hb
      cases b with
      | box l t =>
        obtain ⟨g, arr, a1, a2, a3, a4⟩ := hN
        refine ⟨g, arr, by simpa [List.getD, h1] using a1, ?_, a3, a4.map_left fun _ _ h => Lf.ren_LR h⟩
        simp only [renE, a2, ix_of hn h1, Option.map_some]
      | arr cur t xs m =>
        refine ⟨hN.1, ?_⟩
        have e : (fun i => μ (π.getD i 0)) i = μ id := by simp [List.getD, h1]
        rw [e]
        refine Rep.move (E := E) (E' := renE E π) (fun _ => True) (fun q => q) (fun b hb => ⟨hb, rfl⟩) (fun b q _ hq => ⟨?_, rfl, fun _ => ⟨trivial, rfl⟩⟩) (.sl t) xs m _ _ _ _ (fun _ => ⟨fun _ => trivial, fun _ => rfl⟩) (fun _ _ _ h => h) hN.2
        simp only [renE, hq, ix_of hn h1, Option.map_some]
    · simp at h2
  · have hX := hA.ext
    exact ⟨hX.os, hX.tape, hX.output, hX.size, hX.block, hX.grow, hX.from_, fun b h => hX.own b (hκ2 b h)⟩
  · intro k v hv
    obtain ⟨u, h1, rfl⟩ := renSl_look hv
    obtain ⟨y, h2, h3⟩ := hA.slots k u h1
    exact ⟨y, h2, AV.ren_AR h3⟩
end
end Go.Proofs.Ytgpddckjpokclaa.Vc
