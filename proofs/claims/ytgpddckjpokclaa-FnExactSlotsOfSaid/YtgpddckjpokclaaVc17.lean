/- A calculus of values over the model, seventeenth part: rows are frozen; an empty slice is taken as ours. It speaks of any program. -/
import Derived.Test.YtgpddckjpokclaaVc16
namespace Go.Proofs.Ytgpddckjpokclaa.Vc
open Go Go.RowKit
set_option linter.unusedVariables false
set_option linter.unusedSimpArgs false

def cutR {e : Ty} (rng : Option (Nat × Nat)) (xs : List e.den) : List e.den := match rng with
  | none => xs
  | some (o, l) => (xs.drop o).take l

def Lf.frz (H : Heap) (id : Nat) : Lf → Lf
  | .hd i ver rng => cond (Nat.beq i id) (match H[id]? with
    | some (some (.arr cur t xs _)) => cond (Nat.beq ver cur) (.v (.sl t) (cutR rng xs)) .any
    | _ => .any) (.hd i ver rng)
  | a => a

def SV.frz (H : Heap) (id : Nat) : SV → SV
  | .lf a => .lf (a.frz H id)
  | .agg l => .agg (l.map (Lf.frz H id))

def AV.frz (H : Heap) (id : Nat) : AV → AV
  | .lf a => .lf (a.frz H id)
  | .agg l => .agg (l.map (Lf.frz H id))
  | .tup l => .tup (l.map (SV.frz H id))
  | .clo f l => .clo f (l.map (SV.frz H id))
  | .unk => .unk

def Blk.frz (H : Heap) (id : Nat) : Blk → Blk
  | .box l t => .box (l.map (Lf.frz H id)) t
  | b => b

def isArr (H : Heap) (id : Nat) : Bool := match H[id]? with
  | some (some (.arr _ _ _ _)) => true
  | _ => false

/-- Nobody writes the rows of this id any more. -/
def St.frz (s : St) (id : Nat) : St := ⟨s.sl.map fun x => (x.1, x.2.frz s.H id), (s.H.map fun b => b.map (Blk.frz s.H id)).set id none⟩

def frzE (E : Env) (id : Nat) : Env := ⟨fun b => E.S b ∨ ∃ q, E.κ b = some (.id id, q), fun b => match E.κ b with
  | some (.id i, q) => cond (Nat.beq i id) none (some (.id i, q))
  | o => o⟩

section
variable {P : Program} {T : Tab} {n : Nat} {w0 : World} {E0 : Env0} {s s' s'' : St} {ops : Array Oper} {Q : Exit → St → Prop} {rest : List Oper}
variable {w w' : World} {E E' : Env} {μ μ' : Nat → Value} {H H' : Heap}

theorem hd_fz {k : Nat} (hM : MR w E μ H k) (hS : ∀ b, E.S b → E'.S b) {id ver : Nat} (hκ : ∀ b q, E.κ b = some (.id id, q) → E'.S b) {cur : Nat} {t : Ty} {xs : List t.den} {m : Md} {rng : Option (Nat × Nat)} (hH : H[id]? = some (some (.arr cur t xs m)))
    (hv : Nat.beq ver cur = true) {y : Value} (hy : LR w E μ H (.hd id ver rng) y) : Rep w E' (.res 0) (.sl t) (cutR rng xs) .fz (fun _ => .top) (at0 y) := by
  simp only [LR, hH] at hy
  have hy' := hy.2.2 (Nat.eq_of_beq_eq_true hv)
  have hS' : ∀ b, E.S b → E'.S b ∧ w.heap[b]? = w.heap[b]? := fun b hb => ⟨hS b hb, rfl⟩
  have hκ' : ∀ b q, E.κ b = some (.id id, q) → E'.S b ∧ w.heap[b]? = w.heap[b]? := fun b q hq => ⟨hκ b q hq, rfl⟩
  obtain ⟨hm, ha⟩ := hM.arr hH
  cases rng with
  | none =>
    simp only [HdR] at hy'
    subst hy'
    exact Rep.freeze hS' hκ' (.sl t) xs m _ _ _ _ (fun _ _ _ h => h) (hM.blks id _ hH).2
  | some ol =>
    obtain ⟨o, l⟩ := ol
    replace hy' := HdR.old hy'
    rcases hy' with ⟨rfl, ad, c, rfl⟩ | ⟨b, c, c', f1, rfl, f3, f4⟩
    · exact ⟨_, rfl, .inl ⟨rfl, .inl ⟨by simp [cutR], ad, c, rfl⟩⟩⟩
    · rcases ha with ⟨rfl, ad, ha⟩ | ⟨b', c2, arr, ty, g1, g2, g3, g4, g5, g6⟩
      · simp at f3
        obtain ⟨rfl, rfl⟩ := f3
        exact ⟨_, rfl, .inl ⟨rfl, .inl ⟨by simp [cutR], _, _, rfl⟩⟩⟩
      · rw [f1] at g1
        simp only [Value.slice.injEq, Option.some.injEq, Addr.mk.injEq, and_true] at g1
        obtain ⟨rfl, _, _⟩ := g1
        have hlen : ((xs.drop o).take l).length = l := by simp; omega
        show Rep w E' (.res 0) (.sl t) ((xs.drop o).take l) .fz _ _
        refine ⟨_, rfl, .inl ⟨rfl, .inr ⟨b, o * t.lv, c', by rw [hlen], by rw [hlen]; exact f4, hκ b _ g5, fun i hi => ?_⟩⟩⟩
        have hi' : i < l := by rw [hlen] at hi; exact hi
        have hx : ((xs.drop o).take l)[i] = xs[o + i] := by simp
        rw [hx]
        refine Rep.freeze hS' hκ' t _ m.nest _ _ _ _ (fun j v _ hv => ?_) (g6 (o + i) (by omega))
        rw [show o * t.lv + i * t.lv + j = (o + i) * t.lv + j by rw [Nat.add_mul]]
        exact hv

theorem frzH_at (H : Heap) (id : Nat) {i : Nat} {b : Blk} (h : ((H.map fun b => b.map (Blk.frz H id)).set id none)[i]? = some (some b)) : i ≠ id ∧ ∃ c, H[i]? = some (some c) ∧ b = c.frz H id := by
  by_cases hi : i = id
  · subst hi
    rw [List.getElem?_set] at h
    simp only [if_true] at h
    split at h <;> simp at h
  · rw [List.getElem?_set_ne (Ne.symm hi), List.getElem?_map, Option.map_eq_some_iff] at h
    obtain ⟨c, h1, h2⟩ := h
    rw [Option.map_eq_some_iff] at h2
    obtain ⟨c', rfl, h2⟩ := h2
    exact ⟨hi, c', h1, h2.symm⟩

theorem KpH.frz (H : Heap) (id : Nat) : KpH μ μ H ((H.map fun b => b.map (Blk.frz H id)).set id none) := by
  intro i c hc
  have hlt := (List.getElem?_eq_some_iff.1 hc).1
  by_cases hi : i = id
  · subst hi
    exact ⟨none, by simp [hlt], by cases c <;> trivial⟩
  · refine ⟨c.map (Blk.frz H id), ?_, ?_⟩
    · rw [List.getElem?_set_ne (Ne.symm hi), List.getElem?_map, hc, Option.map_some]
    · cases c with
      | none => trivial
      | some b =>
        cases b with
        | box l t => rfl
        | arr v t xs m => exact .inr ⟨rfl, rfl, rfl, rfl⟩

theorem Lf.frz_LR {id k : Nat} (hM : MR w E μ H k) (hid : isArr H id = true) {a : Lf} {y : Value} (h : LR w E μ H a y) : LR w (frzE E id) μ ((H.map fun b => b.map (Blk.frz H id)).set id none) (a.frz H id) y := by
  have hS : ∀ b, E.S b → (frzE E id).S b ∧ w.heap[b]? = w.heap[b]? := fun b hb => ⟨.inl hb, rfl⟩
  have hk := LR.keep hS (KpH.frz (μ := μ) H id) a y h
  cases a with
  | hd i ver rng =>
    simp only [Lf.frz]
    cases hb : Nat.beq i id with
    | false => exact hk
    | true =>
      have := Nat.eq_of_beq_eq_true hb
      subst this
      simp only [cond_true]
      split
      · rename_i cur t xs m hH
        cases hv : Nat.beq ver cur with
        | false => exact LR_one h
        | true =>
          have := hd_fz (E' := frzE E i) hM (fun b hb => .inl hb) (fun b q hq => .inr ⟨q, hq⟩) hH hv h
          exact this
      · exact LR_one h
  | v t x => exact hk
  | nil => exact hk
  | ptr i ver a b => exact hk
  | fp t x j => exact hk
  | any => exact hk

theorem SV.frz_SR {id k : Nat} (hM : MR w E μ H k) (hid : isArr H id = true) {a : SV} {y : Value} (h : SR w E μ H a y) : SR w (frzE E id) μ ((H.map fun b => b.map (Blk.frz H id)).set id none) (a.frz H id) y := by
  cases a with
  | lf a => exact Lf.frz_LR (a := a) hM hid h
  | agg l => obtain ⟨arr, h1, h2⟩ := h; exact ⟨arr, h1, h2.map_left fun _ _ h => Lf.frz_LR hM hid h⟩

theorem AV.frz_AR {id k : Nat} (hM : MR w E μ H k) (hid : isArr H id = true) {a : AV} {y : Value} (h : AR w E μ H a y) : AR w (frzE E id) μ ((H.map fun b => b.map (Blk.frz H id)).set id none) (a.frz H id) y := by
  cases a with
  | lf a => exact Lf.frz_LR (a := a) hM hid h
  | agg l => obtain ⟨arr, h1, h2⟩ := h; exact ⟨arr, h1, h2.map_left fun _ _ h => Lf.frz_LR hM hid h⟩
  | tup l => obtain ⟨arr, h1, h2⟩ := h; exact ⟨arr, h1, h2.map_left fun _ _ h => SV.frz_SR hM hid h⟩
  | clo f l => obtain ⟨arr, h1, h2⟩ := h; exact ⟨arr, h1, h2.map_left fun _ _ h => SV.frz_SR hM hid h⟩
  | unk => exact h

theorem look_map (f : AV → AV) : ∀ (sl : List (Nat × AV)) (k : Nat), look (sl.map fun x => (x.1, f x.2)) k = (look sl k).map f
  | [], _ => rfl
  | (j, v) :: l, k => by
    simp only [List.map_cons, look]
    cases Nat.beq j k with
    | true => rfl
    | false => exact look_map f l k

theorem Gh.frz (id : Nat) (hid : isArr s.H id = true) : Gh n w0 E0 s (s.frz id) := by
  intro a w hs
  obtain ⟨E, μ, hA⟩ := hs.at
  have hM := hA.mr
  have hS : ∀ b, E.S b → (frzE E id).S b ∧ w.heap[b]? = w.heap[b]? := fun b hb => ⟨.inl hb, rfl⟩
  have hκ1 : ∀ b i q, i ≠ id → E.κ b = some (.id i, q) → (frzE E id).κ b = some (.id i, q) := by
    intro b i q hi h
    simp only [frzE, h]
    cases hb : Nat.beq i id with
    | true => exact absurd (Nat.eq_of_beq_eq_true hb) hi
    | false => rfl
  have hκ2 : ∀ b r q, (frzE E id).κ b = some (r, q) → E.κ b = some (r, q) := by
    intro b r q h
    simp only [frzE] at h
    split at h
    · rename_i i q' hi
      cases hb : Nat.beq i id with
      | true => rw [hb] at h; simp at h
      | false => rw [hb] at h; simp only [cond_false] at h; rw [hi]; exact h
    · exact h
  have hκ3 : ∀ b, (frzE E id).κ b ≠ none → E.κ b ≠ none := by
    intro b h e
    simp only [frzE, e] at h
    exact h rfl
  refine ⟨hA.size, hA.defers, hA.apart, frzE E id, μ, ⟨?_, ?_, fun b h => hM.ltκ b (hκ3 b h), ?_, ?_⟩, ?_, ?_⟩
  · intro b hb
    rcases hb with hb | ⟨q, hq⟩
    · simp only [frzE, hM.apart b hb]
    · simp only [frzE, hq, Nat.beq_refl, cond_true]
  · intro b hb
    rcases hb with hb | ⟨q, hq⟩
    · exact hM.ltS b hb
    · exact hM.ltκ b (by simp [hq])
  · intro b r q h
    have := hM.roots b r q (hκ2 b r q h)
    simpa [St.frz] using this
  · intro i blk h
    obtain ⟨hi, c, h1, rfl⟩ := frzH_at s.H id h
    have hN := hM.blks i c h1
    cases c with
    | box l t =>
      obtain ⟨g, arr, a1, a2, a3, a4⟩ := hN
      exact ⟨g, arr, a1, hκ1 g i _ hi a2, a3, a4.map_left fun _ _ h => Lf.frz_LR hM hid h⟩
    | arr v t xs m =>
      exact NB.keep hS (KpH.frz s.H id) (fun b q hq => ⟨hκ1 b i q hi hq, rfl⟩) rfl hN
  · have hX := hA.ext
    refine ⟨hX.os, hX.tape, hX.output, hX.size, hX.block, fun b hb => .inl (hX.grow b hb), fun b hb => ?_, fun b h => hX.own b (hκ3 b h)⟩
    rcases hb with hb | ⟨q, hq⟩
    · exact hX.from_ b hb
    · exact .inr (hX.own b (by simp [hq]))
  · intro k v hv
    simp only [St.frz, look_map, Option.map_eq_some_iff] at hv
    obtain ⟨u, h1, rfl⟩ := hv
    obtain ⟨y, h2, h3⟩ := hA.slots k u h1
    exact ⟨y, h2, AV.frz_AR hM hid h3⟩

/-- Cell j of variable id is a nil slice: it is taken as an empty slice of ours. -/
def evNil (s : St) (id j : Nat) (e : Ty) (m : Md) : Option St := match s.H[id]? with
  | some (some (.box l t)) => match l[j]? with
    | some .nil => cond (decide (m ≠ .fz)) (some ⟨s.sl, s.H.set id (some (.box (l.set j (.hd s.H.length 0 none)) t)) ++ [some (.arr 0 e [] m)]⟩) none
    | _ => none
  | _ => none

theorem All2.set {α β : Type} {R : α → β → Prop} {x : α} : ∀ {xs : List α} {ys : List β} {j : Nat}, All2 R xs ys → (∀ y, ys[j]? = some y → R x y) → All2 R (xs.set j x) ys
  | _, _, _, .nil, _ => .nil
  | _, _, 0, .cons h1 h2, h => .cons (h _ rfl) h2
  | _, _, j + 1, .cons h1 h2, h => .cons h1 (All2.set h2 fun y hy => h y (by simpa using hy))

theorem Gh.nil (id j : Nat) (e : Ty) (m : Md) (h : evNil s id j e m = some s') : Gh n w0 E0 s s' := by
  intro a w hs
  obtain ⟨E, μ, hA⟩ := hs.at
  have hM := hA.mr
  unfold evNil at h
  split at h
  · rename_i l t hH
    split at h
    · rename_i hl
      cases hm : decide (m ≠ .fz) with
      | false => rw [hm] at h; simp at h
      | true =>
        rw [hm] at h
        simp only [cond_true, Option.some.injEq] at h
        subst h
        have hm' : m ≠ .fz := by simpa using hm
        have hidlt := (List.getElem?_eq_some_iff.1 hH).1
        obtain ⟨g, arr, a1, a2, a3, a4⟩ := hM.blks id _ hH
        obtain ⟨v, b1, b2⟩ := a4.get j _ hl
        obtain ⟨ad, rfl⟩ := b2
        have hK : KpH μ (putμ μ s.H.length (.slice ad 0 0)) s.H (s.H.set id (some (.box (l.set j (.hd s.H.length 0 none)) t)) ++ [some (.arr 0 e [] m)]) := by
          intro i c hc
          have hlt := (List.getElem?_eq_some_iff.1 hc).1
          have hμ : putμ μ s.H.length (.slice ad 0 0) i = μ i := by simp [putμ]; omega
          by_cases hi : i = id
          · subst hi
            rw [hH] at hc
            simp only [Option.some.injEq] at hc
            subst hc
            exact ⟨some (.box (l.set j (.hd s.H.length 0 none)) t), by rw [List.getElem?_append_left (by simpa using hlt)]; simp [hlt], hμ⟩
          · refine ⟨c, by rw [List.getElem?_append_left (by simpa using hlt), List.getElem?_set_ne (Ne.symm hi)]; exact hc, ?_⟩
            rw [hμ]
            exact Kp.refl _ _
        have hS : ∀ b, E.S b → E.S b ∧ w.heap[b]? = w.heap[b]? := fun b hb => ⟨hb, rfl⟩
        have hnew : (s.H.set id (some (.box (l.set j (.hd s.H.length 0 none)) t)) ++ [some (.arr 0 e [] m)])[s.H.length]? = some (some (.arr 0 e [] m)) := by
          rw [List.getElem?_append_right (by simp)]
          simp
        refine ⟨hA.size, hA.defers, hA.apart, E, putμ μ s.H.length (.slice ad 0 0), ?_, hA.ext, fun k u hu => ?_⟩
        · refine MR.step hM hM.apart hM.ltS hM.ltκ (fun b r q h => ?_) hS hK (fun i blk h => ?_)
          · rcases hM.roots b r q h with ⟨m, h1, h2⟩ | h1
            · exact .inl ⟨m, h1, by simp; omega⟩
            · exact .inr h1
          · by_cases hi : i = id
            · subst hi
              rw [List.getElem?_append_left (by simpa using hidlt), List.getElem?_set_self hidlt] at h
              simp only [Option.some.injEq] at h
              subst h
              refine .inr ⟨g, arr, by simpa [putμ, show i ≠ s.H.length by omega] using a1, a2, a3, All2.set (a4.imp (LR.keep hS hK)) (fun y hy => ?_)⟩
              rw [b1] at hy
              simp only [Option.some.injEq] at hy
              subst hy
              simp only [LR, hnew, HdR, Nat.le_refl, true_and]
              exact ⟨rfl, fun _ => by simp [putμ]⟩
            · by_cases hlt : i < s.H.length
              · rw [List.getElem?_append_left (by simpa using hlt), List.getElem?_set_ne (Ne.symm hi)] at h
                exact .inl ⟨h, by simp [putμ]; omega, fun b q hq => ⟨hq, rfl⟩⟩
              · have hlt2 := (List.getElem?_eq_some_iff.1 h).1
                have : i = s.H.length := by simp at hlt2; omega
                subst this
                rw [hnew] at h
                simp only [Option.some.injEq] at h
                subst h
                exact .inr ⟨hm', _, rfl, .inr ⟨hm', .inl ⟨rfl, ad, by simp [putμ]⟩⟩⟩
        · obtain ⟨y, h2, h3⟩ := hA.slots k u hu
          exact ⟨y, h2, AR.keep hS hK _ _ h3⟩
    · simp at h
  · simp at h

/-! ### a struct out of its fields -/
theorem fold_spl (off : Nat) : ∀ (vs : List Value) (k : Nat) (cells : Array Value), off + k + vs.length ≤ cells.size →
    ((vs.zipIdx k).foldl (fun (cs : Array Value) (x : Value × Nat) => cs.setIfInBounds (off + x.2) x.1) cells).toList = cells.toList.take (off + k) ++ vs ++ cells.toList.drop (off + k + vs.length)
  | [], k, cells, h => by simp
  | v :: vs, k, cells, h => by
    simp only [List.length_cons] at h
    rw [List.zipIdx_cons, List.foldl_cons, fold_spl off vs (k + 1) _ (by simp; omega)]
    simp only [Array.toList_setIfInBounds, List.length_cons]
    have hlt : off + k < cells.toList.length := by simp; omega
    apply List.ext_getElem?
    intro i
    simp only [List.append_assoc, List.cons_append, List.nil_append, List.getElem?_append, List.length_take, List.length_set, Array.length_toList, List.length_cons]
    rw [Nat.min_eq_left (show off + (k + 1) ≤ cells.size by omega), Nat.min_eq_left (show off + k ≤ cells.size by omega)]
    by_cases h1 : i < off + k
    · rw [if_pos (by omega), if_pos h1, List.getElem?_take, List.getElem?_take, if_pos (by omega), if_pos h1, List.getElem?_set_ne (by omega)]
    · rw [if_neg h1]
      by_cases h2 : i = off + k
      · subst h2
        rw [if_pos (by omega), List.getElem?_take, if_pos (by omega), List.getElem?_set_self hlt]
        simp
      · rw [if_neg (by omega)]
        have e : i - (off + k) = (i - (off + (k + 1))) + 1 := by omega
        rw [e, List.getElem?_cons_succ]
        by_cases h3 : i - (off + (k + 1)) < vs.length
        · rw [List.getElem?_append_left h3, if_pos h3]
        · rw [if_neg h3, List.getElem?_append_right (by omega)]
          simp only [List.getElem?_drop]
          rw [List.getElem?_set_ne (by omega)]
          congr 1
          omega

/-- The fields, one after the other, into cells of zero. -/
def buildLs (ti : TI) (sl : List (Nat × AV)) : List Lf → List (Nat × Operand) → Option (List Lf)
  | l, [] => some l
  | l, (i, x) :: r => match (ti.offs.zip ti.szs)[i]?, opnd sl x with
    | some (o, k), some v => match cellsOf v with
      | some c => cond (Nat.beq c.length k && Nat.ble (o + c.length) l.length) (buildLs ti sl (spl l o c) r) none
      | none => none
    | _, _ => none

def isPairT (t : Ty) : Bool := t.isPair

def evBuild (T : Tab) (n : Nat) (s : St) (o : Oper) : Option (Nat × AV) :=
  match o.guard, o.dst, o.op with
  | none, some d, .build t parts => cond (Nat.blt d n) (match T t with
    | some ti => cond ti.ty.isPair ((buildLs ti s.sl (zlfs ti.ty) parts.toList).map fun l => (d, .agg l)) none
    | none => none) none
  | _, _, _ => none

theorem buildLs_run {ti : TI} {a : Act} (hA : At n w0 E0 s a w E μ) : ∀ {parts : List (Nat × Operand)} {l l' : List Lf} {cells : Array Value}, buildLs ti s.sl l parts = some l' → All2 (LR w E μ s.H) l cells.toList →
    ∃ cells', Instr.fill (fun x => (ti.offs.zip ti.szs)[x]?) cells (parts.map fun x => (x.1, a.eval x.2)) = some cells' ∧ All2 (LR w E μ s.H) l' cells'.toList
  | [], l, l', cells, h, hl => by
    simp only [buildLs, Option.some.injEq] at h
    subst h
    exact ⟨cells, rfl, hl⟩
  | (i, x) :: r, l, l', cells, h, hl => by
    simp only [buildLs] at h
    split at h
    · rename_i o k v hi hx
      split at h
      · rename_i c hc
        cases hb : (Nat.beq c.length k && Nat.ble (o + c.length) l.length) with
        | false => rw [hb] at h; simp at h
        | true =>
          rw [hb] at h
          simp only [cond_true] at h
          simp only [Bool.and_eq_true] at hb
          have h1 := Nat.eq_of_beq_eq_true hb.1
          have h2 : o + c.length ≤ l.length := by simpa using hb.2
          have hy := cellsOf_run hc (hA.opnd hx)
          have hcl : (a.eval x).cells.size = c.length := by have := hy.length; simpa using this.symm
          have hll : l.length = cells.size := by simpa using hl.length
          have hfold : ((a.eval x).cells.zipIdx.foldl (fun (cs : Array Value) (y : Value × Nat) => cs.setIfInBounds (o + y.2) y.1) cells).toList = cells.toList.take o ++ (a.eval x).cells.toList ++ cells.toList.drop (o + (a.eval x).cells.size) := by
            rw [← Array.foldl_toList, Array.toList_zipIdx]
            have := fold_spl o (a.eval x).cells.toList 0 cells (by simp; omega)
            simpa using this
          have hl2 : All2 (LR w E μ s.H) (spl l o c) ((a.eval x).cells.zipIdx.foldl (fun (cs : Array Value) (y : Value × Nat) => cs.setIfInBounds (o + y.2) y.1) cells).toList := by
            rw [hfold, hcl]
            exact ((hl.take o).append hy).append (hl.drop _)
          obtain ⟨cells', f1, f2⟩ := buildLs_run hA h hl2
          refine ⟨cells', ?_, f2⟩
          simp only [List.map_cons, Instr.fill, hi]
          rw [if_neg (by simp [hcl, h1]; omega)]
          exact f1
      · simp at h
    · simp at h

theorem VO.build {o : Oper} {d : Nat} {v : AV} (hT : TabOk P T) (h : evBuild T n s o = some (d, v)) (k : VO P n w0 E0 ops Q rest ⟨(d, v) :: s.sl, s.H⟩) : VO P n w0 E0 ops Q (o :: rest) s := by
  intro a w hs
  obtain ⟨E, μ, hA⟩ := hs.at
  unfold evBuild at h
  split at h
  · rename_i d' t parts hg hd ho
    cases hb : Nat.blt d' n with
    | false => rw [hb] at h; simp at h
    | true =>
      rw [hb] at h
      simp only [cond_true] at h
      split at h
      · rename_i ti hi
        cases hp : ti.ty.isPair with
        | false => rw [hp] at h; simp at h
        | true =>
          rw [hp] at h
          simp only [cond_true, Option.map_eq_some_iff, Prod.mk.injEq] at h
          obtain ⟨l, h1, rfl, rfl⟩ := h
          obtain ⟨info, g1, g2, g3, _⟩ := (hT t ti hi).info
          obtain ⟨z, hz, hz'⟩ := Option.map_eq_some_iff.1 g3
          have hu := (hT t ti hi).under
          obtain ⟨fs, u1, u3⟩ : ∃ fs : Array Field, P.underlying t = some (.struct fs) ∧ fs.toList.mapM (fun f => (P.info? f.type).map fun j => (f.offset, j.size)) = some (ti.offs.zip ti.szs) := by
            cases hty : ti.ty with
            | pair x y => rw [hty] at hu; obtain ⟨fs, h1, _, h2⟩ := hu; exact ⟨fs, h1, h2⟩
            | _ => rw [hty] at hp; simp [Ty.isPair] at hp
          obtain ⟨cells', f1, f2⟩ := buildLs_run hA h1 (cells := z.cells) (by rw [hz']; exact zlfs_LR _)
          have hrun : (Instr.build t (parts.map fun (i, x) => (i, a.eval x))).run P w = .ok (.agg cells') w := by
            refine run_build w t _ cells' ?_
            unfold Program.built
            simp only [g1, u1, hz, u3]
            simpa using f1
          refine wpList_value (y := .agg cells') (w' := w) hg ?_ ?_
          · simp only [execOp, ho, Sem.run_bind, hrun, Result.andThen_ok, Sem.run_pure]
          · rw [hd]
            exact k _ _ (hA.put (by simpa [Nat.blt_eq] using hb) hA.mr (Ext.refl w E) (fun b hb => ⟨hb, rfl⟩) (KpH.refl μ s.H) (v := .agg l) ⟨cells', rfl, f2⟩).rel
      · simp at h
  · simp at h
end
end Go.Proofs.Ytgpddckjpokclaa.Vc
