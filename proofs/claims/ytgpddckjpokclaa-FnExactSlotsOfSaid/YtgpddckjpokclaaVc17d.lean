/- A calculus of values over the model, part 17d: a variable that nobody writes any more. It speaks of any program. -/
import Derived.Test.YtgpddckjpokclaaVc17c
namespace Go.Proofs.Ytgpddckjpokclaa.Vc
open Go Go.RowKit
set_option linter.unusedVariables false
set_option linter.unusedSimpArgs false

def Lf.frzB (id : Nat) (t : Ty) (x : t.den) : Lf → Lf
  | .ptr i ver k j => cond (Nat.beq i id) (.fp t x j) (.ptr i ver k j)
  | .hd i ver rng => cond (Nat.beq i id) .any (.hd i ver rng)
  | a => a

def SV.frzB (id : Nat) (t : Ty) (x : t.den) : SV → SV
  | .lf a => .lf (a.frzB id t x)
  | .agg l => .agg (l.map (Lf.frzB id t x))

def AV.frzB (id : Nat) (t : Ty) (x : t.den) : AV → AV
  | .lf a => .lf (a.frzB id t x)
  | .agg l => .agg (l.map (Lf.frzB id t x))
  | .tup l => .tup (l.map (SV.frzB id t x))
  | .clo f l => .clo f (l.map (SV.frzB id t x))
  | .unk => .unk

def Blk.frzB (id : Nat) (t : Ty) (x : t.den) : Blk → Blk
  | .box l tid => .box (l.map (Lf.frzB id t x)) tid
  | b => b

/-- The variable id, of kind t, is written no more. -/
def evFrzB (s : St) (id : Nat) (t : Ty) : Option St := match s.H[id]? with
  | some (some (.box l _)) => match ofLfs .fz t l with
    | some (x, []) => some ⟨s.sl.map fun y => (y.1, y.2.frzB id t x), (s.H.map fun b => b.map (Blk.frzB id t x)).set id none⟩
    | _ => none
  | _ => none

/-- A nil slice in a variable's cell, taken as one that nobody writes. -/
def evNilB (s : St) (id j : Nat) (e : Ty) : Option St := match s.H[id]? with
  | some (some (.box l t)) => match l[j]? with
    | some .nil => some ⟨s.sl, s.H.set id (some (.box (l.set j (.v (.sl e) [])) t))⟩
    | _ => none
  | _ => none

/-- .. in a struct in a slot. -/
def evNilA (s : St) (d j : Nat) (e : Ty) : Option St := match look s.sl d with
  | some (.agg l) => match l[j]? with
    | some .nil => some ⟨(d, .agg (l.set j (.v (.sl e) []))) :: s.sl, s.H⟩
    | _ => none
  | _ => none

section
variable {P : Program} {T : Tab} {n : Nat} {w0 : World} {E0 : Env0} {s s' s'' : St} {ops : Array Oper} {Q : Exit → St → Prop} {rest : List Oper}
variable {w w' : World} {E E' : Env} {μ μ' : Nat → Value} {H H' : Heap}

theorem frzBH_at (H : Heap) (id : Nat) (t : Ty) (x : t.den) {i : Nat} {b : Blk} (h : ((H.map fun b => b.map (Blk.frzB id t x)).set id none)[i]? = some (some b)) : i ≠ id ∧ ∃ c, H[i]? = some (some c) ∧ b = c.frzB id t x := by
  by_cases hi : i = id
  · subst hi
    rw [List.getElem?_set] at h
    simp only [if_true] at h
    split at h <;> simp at h
  · rw [List.getElem?_set_ne (Ne.symm hi), List.getElem?_map, Option.map_eq_some_iff] at h
    obtain ⟨c, h1, h2⟩ := h
    rw [Option.map_eq_some_iff] at h2
    obtain ⟨c', rfl, h2⟩ := h2
    exact ⟨hi, c', h1, h2.symm⟩

theorem KpH.frzB (H : Heap) (id : Nat) (t : Ty) (x : t.den) : KpH μ μ H ((H.map fun b => b.map (Blk.frzB id t x)).set id none) := by
  intro i c hc
  have hlt := (List.getElem?_eq_some_iff.1 hc).1
  by_cases hi : i = id
  · subst hi
    exact ⟨none, by simp [hlt], by cases c <;> trivial⟩
  · refine ⟨c.map (Blk.frzB id t x), ?_, ?_⟩
    · rw [List.getElem?_set_ne (Ne.symm hi), List.getElem?_map, hc, Option.map_some]
    · cases c with
      | none => trivial
      | some b =>
        cases b with
        | box l t => rfl
        | arr v t xs m => exact .inr ⟨rfl, rfl, rfl, rfl⟩

/-- What a frozen variable's cells hold. -/
def IsB (w : World) (E : Env) (μ : Nat → Value) (id : Nat) (t : Ty) (x : t.den) : Prop :=
  ∃ b, μ id = .pointer (some ⟨b, 0, none⟩) ∧ Rep w E (.res 0) t x .fz (fun _ => .top) (fun k => cellAt w b k) ∧ E.κ b = some (.id id, .top)

theorem Lf.frzB_LR {id : Nat} {t : Ty} {x : t.den} {l : List Lf} {tid : TypeId} (hB : H[id]? = some (some (.box l tid))) (hI : IsB w E μ id t x) {a : Lf} {y : Value} (h : LR w E μ H a y) :
    LR w (frzE E id) μ ((H.map fun b => b.map (Blk.frzB id t x)).set id none) (a.frzB id t x) y := by
  have hS : ∀ b, E.S b → (frzE E id).S b ∧ w.heap[b]? = w.heap[b]? := fun b hb => ⟨.inl hb, rfl⟩
  have hk := LR.keep hS (KpH.frzB (μ := μ) H id t x) a y h
  cases a with
  | ptr i ver k j =>
    simp only [Lf.frzB]
    cases hb : Nat.beq i id with
    | false => exact hk
    | true =>
      have := Nat.eq_of_beq_eq_true hb
      subst this
      simp only [cond_true]
      simp only [LR, hB] at h
      obtain ⟨_, b, h1, rfl⟩ := h
      obtain ⟨b', h2, h3, h4⟩ := hI
      rw [h1] at h2
      simp only [Value.pointer.injEq, Option.some.injEq, Addr.mk.injEq, and_true] at h2
      subst h2
      exact ⟨b, 0, by simp, .inr ⟨_, h4⟩, by simpa using Rep.fz (E := E) (E' := frzE E i) hS t x (fun _ _ _ h => h) h3⟩
  | hd i ver rng =>
    simp only [Lf.frzB]
    cases hb : Nat.beq i id with
    | false => exact hk
    | true => exact LR_one h
  | v t x => exact hk
  | nil => exact hk
  | fp t x j => exact hk
  | any => exact hk

theorem SV.frzB_SR {id : Nat} {t : Ty} {x : t.den} {l : List Lf} {tid : TypeId} (hB : H[id]? = some (some (.box l tid))) (hI : IsB w E μ id t x) {a : SV} {y : Value} (h : SR w E μ H a y) :
    SR w (frzE E id) μ ((H.map fun b => b.map (Blk.frzB id t x)).set id none) (a.frzB id t x) y := by
  cases a with
  | lf a => exact Lf.frzB_LR (a := a) hB hI h
  | agg l => obtain ⟨arr, h1, h2⟩ := h; exact ⟨arr, h1, h2.map_left fun _ _ h => Lf.frzB_LR hB hI h⟩

theorem AV.frzB_AR {id : Nat} {t : Ty} {x : t.den} {l : List Lf} {tid : TypeId} (hB : H[id]? = some (some (.box l tid))) (hI : IsB w E μ id t x) {a : AV} {y : Value} (h : AR w E μ H a y) :
    AR w (frzE E id) μ ((H.map fun b => b.map (Blk.frzB id t x)).set id none) (a.frzB id t x) y := by
  cases a with
  | lf a => exact Lf.frzB_LR (a := a) hB hI h
  | agg l => obtain ⟨arr, h1, h2⟩ := h; exact ⟨arr, h1, h2.map_left fun _ _ h => Lf.frzB_LR hB hI h⟩
  | tup l => obtain ⟨arr, h1, h2⟩ := h; exact ⟨arr, h1, h2.map_left fun _ _ h => SV.frzB_SR hB hI h⟩
  | clo f l => obtain ⟨arr, h1, h2⟩ := h; exact ⟨arr, h1, h2.map_left fun _ _ h => SV.frzB_SR hB hI h⟩
  | unk => exact h

theorem Gh.frzB (id : Nat) (t : Ty) (h : evFrzB s id t = some s') : Gh n w0 E0 s s' := by
  intro a w hs
  obtain ⟨E, μ, hA⟩ := hs.at
  unfold evFrzB at h
  split at h
  · rename_i l tid hB
    split at h
    · rename_i x hx
      simp only [Option.some.injEq] at h
      subst h
      have hM := hA.mr
      obtain ⟨b0, arr0, c1, c2, c3, c4⟩ := hM.blks id _ hB
      obtain ⟨d1, d2, d3⟩ := ofLfs_rep (r := .res 0) (m := .fz) (t := t) (p := fun _ => .top) hx c4
      have hI : IsB w E μ id t x := ⟨b0, c1, Rep.fz (E := E) (E' := E) (fun b hb => ⟨hb, rfl⟩) t x (fun j v _ hv => by
        simp only [cellAt, World.cell?, c3, Option.isSome_none, Bool.false_eq_true, if_false]
        simpa using hv) d1, c2⟩
      have hS : ∀ b, E.S b → (frzE E id).S b ∧ w.heap[b]? = w.heap[b]? := fun b hb => ⟨.inl hb, rfl⟩
      have hκ1 : ∀ b i q, i ≠ id → E.κ b = some (.id i, q) → (frzE E id).κ b = some (.id i, q) := by
        intro b i q hi h
        simp only [frzE, h]
        cases hb : Nat.beq i id with
        | true => exact absurd (Nat.eq_of_beq_eq_true hb) hi
        | false => rfl
      have hκ2 : ∀ b r q, (frzE E id).κ b = some (r, q) → E.κ b = some (r, q) := by
        intro b r q h
        simp only [frzE] at h
        split at h
        · rename_i i q' hi
          cases hb : Nat.beq i id with
          | true => rw [hb] at h; simp at h
          | false => rw [hb] at h; simp only [cond_false] at h; rw [hi]; exact h
        · exact h
      have hκ3 : ∀ b, (frzE E id).κ b ≠ none → E.κ b ≠ none := by
        intro b h e
        simp only [frzE, e] at h
        exact h rfl
      refine ⟨hA.size, hA.defers, hA.apart, frzE E id, μ, ⟨?_, ?_, fun b h => hM.ltκ b (hκ3 b h), ?_, ?_⟩, ?_, ?_⟩
      · intro b hb
        rcases hb with hb | ⟨q, hq⟩
        · simp only [frzE, hM.apart b hb]
        · simp only [frzE, hq, Nat.beq_refl, cond_true]
      · intro b hb
        rcases hb with hb | ⟨q, hq⟩
        · exact hM.ltS b hb
        · exact hM.ltκ b (by simp [hq])
      · intro b r q h
        have := hM.roots b r q (hκ2 b r q h)
        simpa using this
      · intro i blk h
        obtain ⟨hi, c, h1, rfl⟩ := frzBH_at s.H id t x h
        have hN := hM.blks i c h1
        cases c with
        | box l' t' =>
          obtain ⟨g, arr, a1, a2, a3, a4⟩ := hN
          exact ⟨g, arr, a1, hκ1 g i _ hi a2, a3, a4.map_left fun _ _ h => Lf.frzB_LR hB hI h⟩
        | arr v t' xs m =>
          exact NB.keep hS (KpH.frzB s.H id t x) (fun b q hq => ⟨hκ1 b i q hi hq, rfl⟩) rfl hN
      · have hX := hA.ext
        refine ⟨hX.os, hX.tape, hX.output, hX.size, hX.block, fun b hb => .inl (hX.grow b hb), fun b hb => ?_, fun b h => hX.own b (hκ3 b h)⟩
        rcases hb with hb | ⟨q, hq⟩
        · exact hX.from_ b hb
        · exact .inr (hX.own b (by simp [hq]))
      · intro k v hv
        simp only [look_map, Option.map_eq_some_iff] at hv
        obtain ⟨u, h1, rfl⟩ := hv
        obtain ⟨y, h2, h3⟩ := hA.slots k u h1
        exact ⟨y, h2, AV.frzB_AR hB hI h3⟩
    · simp at h
  · simp at h

theorem nil_v {e : Ty} {y : Value} (h : LR w E μ H .nil y) : LR w E μ H' (.v (.sl e) []) y := by
  obtain ⟨a, rfl⟩ := h
  exact ⟨_, rfl, .inl ⟨rfl, .inl ⟨rfl, a, 0, rfl⟩⟩⟩

theorem Gh.nilB (id j : Nat) (e : Ty) (h : evNilB s id j e = some s') : Gh n w0 E0 s s' := by
  intro a w hs
  obtain ⟨E, μ, hA⟩ := hs.at
  unfold evNilB at h
  split at h
  · rename_i l t hb
    split at h
    · rename_i hl
      simp only [Option.some.injEq] at h
      subst h
      have hM := hA.mr
      have hS : ∀ b, E.S b → E.S b ∧ w.heap[b]? = w.heap[b]? := fun b hb => ⟨hb, rfl⟩
      have hK : KpH μ μ s.H (s.H.set id (some (.box (l.set j (.v (.sl e) [])) t))) := KpH.set hb rfl
      have hlt : id < s.H.length := (List.getElem?_eq_some_iff.1 hb).1
      refine ⟨hA.size, hA.defers, hA.apart, E, μ, ?_, hA.ext, fun k u hu => ?_⟩
      · refine MR.step hM hM.apart hM.ltS hM.ltκ (fun b r q h => by simpa using hM.roots b r q h) hS hK (fun i blk hi => ?_)
        by_cases hid : i = id
        · subst hid
          rw [List.getElem?_set_self hlt] at hi
          simp only [Option.some.injEq] at hi
          subst hi
          obtain ⟨g, arr, a1, a2, a3, a4⟩ := hM.blks i _ hb
          refine .inr ⟨g, arr, a1, a2, a3, All2.set (a4.imp (LR.keep hS hK)) (fun z hz => ?_)⟩
          obtain ⟨y, b1, b2⟩ := a4.get j _ hl
          rw [b1] at hz
          simp only [Option.some.injEq] at hz
          subst hz
          exact nil_v b2
        · rw [List.getElem?_set_ne (Ne.symm hid)] at hi
          exact .inl ⟨hi, rfl, fun b q hq => ⟨hq, rfl⟩⟩
      · obtain ⟨z, h4, h5⟩ := hA.slots k u hu
        exact ⟨z, h4, AR.keep hS hK _ _ h5⟩
    · simp at h
  · simp at h

theorem Gh.nilA (d j : Nat) (e : Ty) (h : evNilA s d j e = some s') : Gh n w0 E0 s s' := by
  intro a w hs
  obtain ⟨E, μ, hA⟩ := hs.at
  unfold evNilA at h
  split at h
  · rename_i l hl
    split at h
    · rename_i hn
      simp only [Option.some.injEq] at h
      subst h
      refine ⟨hA.size, hA.defers, hA.apart, E, μ, hA.mr, hA.ext, fun k u hu => ?_⟩
      rw [look_put] at hu
      split at hu
      · rename_i e'
        subst e'
        simp only [Option.some.injEq] at hu
        subst hu
        obtain ⟨y, h1, arr, rfl, h2⟩ := hA.slots d _ hl
        refine ⟨_, h1, arr, rfl, All2.set h2 (fun z hz => ?_)⟩
        obtain ⟨y, b1, b2⟩ := h2.get j _ hn
        rw [b1] at hz
        simp only [Option.some.injEq] at hz
        subst hz
        exact nil_v b2
      · exact hA.slots k u hu
    · simp at h
  · simp at h
end
end Go.Proofs.Ytgpddckjpokclaa.Vc
