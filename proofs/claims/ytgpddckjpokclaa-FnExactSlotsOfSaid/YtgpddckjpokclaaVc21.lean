/- A calculus of values over the model, part 21: what an operation does does not hang on the slots that it does not look at. It speaks of any program. -/
import Derived.Test.YtgpddckjpokclaaVc20
import Derived.Orders
namespace Go.Proofs.Ytgpddckjpokclaa.Vc
open Go Go.RowKit
set_option linter.unusedVariables false
set_option linter.unusedSimpArgs false

/-- More slots are known. -/
def Le (sl sl' : List (Nat × AV)) : Prop := ∀ k v, look sl k = some v → look sl' k = some v

section
variable {P : Program} {T : Tab} {n : Nat} {w0 : World} {E0 : Env0} {s s' s'' : St} {ops : Array Oper} {Q : Exit → St → Prop} {rest : List Oper} {sl sl' : List (Nat × AV)} {H : Heap}

theorem Le.opnd (h : Le sl sl') : ∀ {x : Operand} {v : AV}, Vc.opnd sl x = some v → Vc.opnd sl' x = some v
  | .tmp k, v, hx => opnd_of (opnd_tmp hx).1 (h k v (opnd_tmp hx).2)
  | .const v', v, hx => by cases v' <;> exact hx
  | .func f, v, hx => hx
  | .global _, v, hx => hx

theorem Le.caps (h : Le sl sl') : ∀ {l : List Operand} {r : List SV}, Vc.caps sl l = some r → Vc.caps sl' l = some r
  | [], r, hx => hx
  | x :: l, r, hx => by
    simp only [Vc.caps] at hx ⊢
    split at hx
    · rename_i v hv
      split at hx
      · rename_i a r' ha hr
        rw [h.opnd hv]
        simp only [ha, h.caps hr]
        exact hx
      · simp at hx
    · simp at hx

theorem Le.mapO (h : Le sl sl') {o : Option Operand} {r : Option AV} (hx : (match o with | none => some none | some x => (Vc.opnd sl x).map some) = some r) : (match o with | none => some none | some x => (Vc.opnd sl' x).map some) = some r := by
  cases o with
  | none => exact hx
  | some x =>
    simp only [Option.map_eq_some_iff] at hx ⊢
    obtain ⟨v, h1, h2⟩ := hx
    exact ⟨v, h.opnd h1, h2⟩

theorem Le.evCall (h : Le sl sl') {c : Call} {r : Prop × AV} (hx : Vc.evCall T ⟨sl, H⟩ c = some r) : Vc.evCall T ⟨sl', H⟩ c = some r := by
  unfold Vc.evCall at hx ⊢
  split at hx
  · rename_i b hb
    split at hx
    · rename_i x hl
      split at hx
      · split at hx
        · rename_i v t hv ht
          simp only [h.opnd hv, ht]
          exact hx
        · simp at hx
      · simp at hx
    · rename_i x y hl
      split at hx
      · rename_i v u hv hu
        simp only [h.opnd hv, h.opnd hu]
        exact hx
      · simp at hx
    · simp at hx
  · simp at hx

theorem Le.evOp (h : Le sl sl') : ∀ {op : Op} {r : Prop × AV}, Vc.evOp T ⟨sl, H⟩ op = some r → Vc.evOp T ⟨sl', H⟩ op = some r := by
  intro op r hx
  cases op with
  | move x => simp only [Vc.evOp, Option.map_eq_some_iff] at hx ⊢; obtain ⟨v, h1, h2⟩ := hx; exact ⟨v, h.opnd h1, h2⟩
  | assign x => simp only [Vc.evOp, Option.map_eq_some_iff] at hx ⊢; obtain ⟨v, h1, h2⟩ := hx; exact ⟨v, h.opnd h1, h2⟩
  | load t x =>
    simp only [Vc.evOp] at hx ⊢
    split at hx
    · rename_i v hv; simp only [h.opnd hv]; exact hx
    · simp at hx
  | fieldAddr t x f =>
    simp only [Vc.evOp] at hx ⊢
    split at hx
    · rename_i v hv; simp only [h.opnd hv]; exact hx
    · simp at hx
  | indexAddr t x i =>
    simp only [Vc.evOp] at hx ⊢
    split at hx
    · rename_i v u hv hu; simp only [h.opnd hv, h.opnd hu]; exact hx
    · simp at hx
  | index t x i =>
    simp only [Vc.evOp] at hx ⊢
    split at hx
    · rename_i v u hv hu; simp only [h.opnd hv, h.opnd hu]; exact hx
    · simp at hx
  | slice t x lo hi mx =>
    simp only [Vc.evOp] at hx ⊢
    have H1 : ∀ (o : Operand) (l : Option AV), (Vc.opnd sl o).map some = some l → (Vc.opnd sl' o).map some = some l := fun o l hl => by
      rw [Option.map_eq_some_iff] at hl ⊢
      obtain ⟨v, h1, h2⟩ := hl
      exact ⟨v, h.opnd h1, h2⟩
    split at hx
    · rename_i v l hh m hv hl h2 h3
      cases lo with
      | none => cases hi with
        | none => cases mx with
          | none => simp only [h.opnd hv]; simp only at hl h2 h3; simp_all
          | some c => simp only [h.opnd hv, H1 _ _ h3]; simp only at hl h2 h3; simp_all
        | some b => cases mx with
          | none => simp only [h.opnd hv, H1 _ _ h2]; simp only at hl h2 h3; simp_all
          | some c => simp only [h.opnd hv, H1 _ _ h2, H1 _ _ h3]; simp only at hl h2 h3; simp_all
      | some a => cases hi with
        | none => cases mx with
          | none => simp only [h.opnd hv, H1 _ _ hl]; simp only at hl h2 h3; simp_all
          | some c => simp only [h.opnd hv, H1 _ _ hl, H1 _ _ h3]; simp only at hl h2 h3; simp_all
        | some b => cases mx with
          | none => simp only [h.opnd hv, H1 _ _ hl, H1 _ _ h2]; simp only at hl h2 h3; simp_all
          | some c => simp only [h.opnd hv, H1 _ _ hl, H1 _ _ h2, H1 _ _ h3]; exact hx
    · simp at hx
  | binOp op t x y u =>
    simp only [Vc.evOp] at hx ⊢
    split at hx
    · rename_i v u hv hu; simp only [h.opnd hv, h.opnd hu]; exact hx
    · simp at hx
  | unOp op t x =>
    simp only [Vc.evOp] at hx ⊢
    split at hx
    · rename_i v hv; simp only [h.opnd hv]; exact hx
    · simp at hx
  | convert a b x =>
    simp only [Vc.evOp] at hx ⊢
    split at hx
    · rename_i v hv; simp only [h.opnd hv]; exact hx
    · simp at hx
  | extract x i =>
    simp only [Vc.evOp] at hx ⊢
    split at hx
    · rename_i v hv; simp only [h.opnd hv]; exact hx
    · simp at hx
  | nilCheck x =>
    simp only [Vc.evOp] at hx ⊢
    split at hx
    · rename_i v hv; simp only [h.opnd hv]; exact hx
    · simp at hx
  | makeFunc f first l =>
    cases f with
    | func f =>
      simp only [Vc.evOp] at hx ⊢
      split at hx
      · rename_i r' h1 h2; simp only [h1, h.caps h2]; exact hx
      · simp at hx
    | _ => simp [Vc.evOp] at hx
  | call c => exact h.evCall hx
  | _ => simp [Vc.evOp] at hx

theorem Le.evQ (h : Le sl sl') {o : Oper} {r : Nat × Prop × AV} (hx : Vc.evQ T n ⟨sl, H⟩ o = some r) : Vc.evQ T n ⟨sl', H⟩ o = some r := by
  unfold Vc.evQ at hx ⊢
  split at hx
  · rename_i d hg hd
    cases hb : Nat.blt d n with
    | false => rw [hb] at hx; simp at hx
    | true =>
      rw [hb] at hx
      simp only [cond_true, Option.map_eq_some_iff] at hx ⊢
      obtain ⟨v, h1, h2⟩ := hx
      exact ⟨v, h.evOp h1, h2⟩
  · simp at hx

theorem Le.evNew (h : Le sl sl') {o : Oper} {r : Nat × AV × Heap} (hx : Vc.evNew T n ⟨sl, H⟩ o = some r) : Vc.evNew T n ⟨sl', H⟩ o = some r := by
  unfold Vc.evNew at hx ⊢
  split at hx
  · rename_i d hg hd
    cases hb : Nat.blt d n with
    | false => rw [hb] at hx; simp at hx
    | true =>
      rw [hb] at hx
      simp only [cond_true] at hx ⊢
      split at hx
      · exact hx
      · split at hx
        · rename_i v hv; simp only [h.opnd hv]; exact hx
        · simp at hx
      · simp at hx
  · simp at hx

theorem Le.litRows (h : Le sl sl') : ∀ {l : List (Nat × Operand)} {i : Nat} {r : List (List Lf)}, Vc.litRows sl i l = some r → Vc.litRows sl' i l = some r
  | [], i, r, hx => hx
  | (j, x) :: l, i, r, hx => by
    simp only [Vc.litRows] at hx ⊢
    cases hb : Nat.beq i j with
    | false => rw [hb] at hx; simp at hx
    | true =>
      rw [hb] at hx
      simp only [cond_true] at hx ⊢
      split at hx
      · rename_i v hv
        split at hx
        · rename_i c l' hc hl
          simp only [h.opnd hv, hc, h.litRows hl]
          exact hx
        · simp at hx
      · simp at hx

theorem Le.evLit (h : Le sl sl') {o : Oper} {r : Nat × AV × Heap} (hx : Vc.evLit T n ⟨sl, H⟩ o = some r) : Vc.evLit T n ⟨sl', H⟩ o = some r := by
  unfold Vc.evLit at hx ⊢
  split at hx
  · rename_i d t len parts hg hd ho
    cases hb : Nat.blt d n with
    | false => rw [hb] at hx; simp at hx
    | true =>
      rw [hb] at hx
      simp only [cond_true] at hx ⊢
      split at hx
      · rename_i ti e he
        split at hx
        · rename_i rows hr
          simp only [h.litRows hr]
          exact hx
        · simp at hx
      · simp at hx
  · simp at hx

theorem Le.evApp (h : Le sl sl') {o : Oper} {r : Nat × Prop × AV × Heap} (hx : Vc.evApp T n ⟨sl, H⟩ o = some r) : Vc.evApp T n ⟨sl', H⟩ o = some r := by
  unfold Vc.evApp at hx ⊢
  split at hx
  · rename_i d args argTypes hg hd ho
    cases hb : Nat.blt d n with
    | false => rw [hb] at hx; simp at hx
    | true =>
      rw [hb] at hx
      simp only [cond_true] at hx ⊢
      split at hx
      · rename_i x y t t' ha ht
        cases hc : Nat.beq t t' with
        | false => rw [hc] at hx; simp at hx
        | true =>
          rw [hc] at hx
          simp only [cond_true] at hx ⊢
          split at hx
          · rename_i ti e vx vy he h1 h2
            simp only [he, h.opnd h1, h.opnd h2]
            exact hx
          · simp at hx
      · simp at hx
  · simp at hx

theorem Le.evStore (h : Le sl sl') {o : Oper} {r : Prop × Heap} (hx : Vc.evStore T ⟨sl, H⟩ o = some r) : Vc.evStore T ⟨sl', H⟩ o = some r := by
  unfold Vc.evStore at hx ⊢
  split at hx
  · rename_i t ad x hg hd ho
    split at hx
    · rename_i ti id ver i j v h1 h2 h3
      simp only [h1, h.opnd h2, h.opnd h3]
      exact hx
    · simp at hx
  · simp at hx

theorem Le.evMake (h : Le sl sl') {m : Md} {o : Oper} {r : Nat × Prop × AV × Heap} (hx : Vc.evMake T n m ⟨sl, H⟩ o = some r) : Vc.evMake T n m ⟨sl', H⟩ o = some r := by
  unfold Vc.evMake at hx ⊢
  split at hx
  · rename_i d t l c hg hd ho
    cases hb : (Nat.blt d n && decide (m ≠ .fz)) with
    | false => rw [hb] at hx; simp at hx
    | true =>
      rw [hb] at hx
      simp only [cond_true] at hx ⊢
      split at hx
      · rename_i h1 h2 h3
        simp only [h1, h.opnd h2, h.opnd h3]
        exact hx
      · simp at hx
  · simp at hx

theorem Le.buildLs (h : Le sl sl') {ti : TI} : ∀ {parts : List (Nat × Operand)} {l r : List Lf}, Vc.buildLs ti sl l parts = some r → Vc.buildLs ti sl' l parts = some r
  | [], l, r, hx => hx
  | (i, x) :: p, l, r, hx => by
    simp only [Vc.buildLs] at hx ⊢
    split at hx
    · rename_i o k v h1 h2
      split at hx
      · rename_i c hc
        cases hb : (Nat.beq c.length k && Nat.ble (o + c.length) l.length) with
        | false => rw [hb] at hx; simp at hx
        | true =>
          rw [hb] at hx
          simp only [cond_true] at hx
          simp only [h1, h.opnd h2, hc, hb, cond_true]
          exact h.buildLs hx
      · simp at hx
    · simp at hx

theorem Le.evBuild (h : Le sl sl') {o : Oper} {r : Nat × AV} (hx : Vc.evBuild T n ⟨sl, H⟩ o = some r) : Vc.evBuild T n ⟨sl', H⟩ o = some r := by
  unfold Vc.evBuild at hx ⊢
  split at hx
  · rename_i d t parts hg hd ho
    cases hb : Nat.blt d n with
    | false => rw [hb] at hx; simp at hx
    | true =>
      rw [hb] at hx
      simp only [cond_true] at hx ⊢
      split at hx
      · rename_i ti hi
        cases hp : ti.ty.isPair with
        | false => rw [hp] at hx; simp at hx
        | true =>
          rw [hp] at hx
          simp only [cond_true, Option.map_eq_some_iff] at hx ⊢
          obtain ⟨l, h1, h2⟩ := hx
          exact ⟨l, h.buildLs h1, h2⟩
      · simp at hx
  · simp at hx

theorem Le.evBy (h : Le sl sl') {o : Oper} {r : Nat × AV} (hx : Vc.evBy T n ⟨sl, H⟩ o = some r) : Vc.evBy T n ⟨sl', H⟩ o = some r := by
  unfold Vc.evBy at hx ⊢
  split at hx
  · rename_i d a b x hg hd ho
    cases hb : Nat.blt d n with
    | false => rw [hb] at hx; simp at hx
    | true =>
      rw [hb] at hx
      simp only [cond_true] at hx ⊢
      split at hx
      · rename_i v hv
        simp only [h.opnd hv]
        exact hx
      · simp at hx
  · simp at hx
theorem Le.evClr (h : Le sl sl') {o : Oper} {r : Heap} (hx : Vc.evClr T ⟨sl, H⟩ o = some r) : Vc.evClr T ⟨sl', H⟩ o = some r := by
  unfold Vc.evClr at hx ⊢
  split at hx
  · rename_i args argTypes hg hd ho
    split at hx
    · rename_i x t h1 h2
      split at hx
      · rename_i ti e id ver q l he hv
        simp only [he, h.opnd hv]
        exact hx
      · simp at hx
    · simp at hx
  · simp at hx

theorem Le.fitAs (h : Le sl sl') {br : Bool} : ∀ {ts : List PT} {xs : List Operand} {ps : List AV}, Vc.fitAs br ⟨sl, H⟩ ts xs = some ps → Vc.fitAs br ⟨sl', H⟩ ts xs = some ps
  | [], [], ps, hx => hx
  | t :: ts, x :: xs, ps, hx => by
    simp only [Vc.fitAs] at hx ⊢
    split at hx
    · rename_i a ha
      split at hx
      · rename_i y ys h1 h2
        simp only [h.opnd ha, h1, h.fitAs h2]
        exact hx
      · simp at hx
    · simp at hx

theorem Le.evArgs (h : Le sl sl') {br : Bool} {tys cts : List PT} {o : Oper} {r : Option Nat × FuncId × List AV} (hx : Vc.evArgs br tys cts n ⟨sl, H⟩ o = some r) : Vc.evArgs br tys cts n ⟨sl', H⟩ o = some r := by
  unfold Vc.evArgs at hx ⊢
  split at hx
  · rename_i c hg ho
    split at hx
    · rename_i f l hc
      have hc' : evCallee ⟨sl', H⟩ c = some (f, l) := by
        unfold evCallee at hc ⊢
        split at hc
        · rename_i x hx
          split at hc
          · rename_i h1
            simp only [h.opnd h1]
            exact hc
          · simp at hc
        · simp at hc
      split at hx
      · rename_i ps cs h1 h2
        simp only [hc', h.fitAs h1, h2]
        exact hx
      · simp at hx
    · simp at hx
  · simp at hx
end
end Go.Proofs.Ytgpddckjpokclaa.Vc
