/- A calculus of values over the model, ninth part: stores into variables and rows. It speaks of any program. -/
import Derived.Test.YtgpddckjpokclaaVc8
namespace Go.Proofs.Ytgpddckjpokclaa.Vc
open Go Go.RowKit
set_option linter.unusedVariables false
set_option linter.unusedSimpArgs false

def setInt (k : IntKind) : Nat → Lf → Option Int
  | 0, .v (.int k') y => if k = k' then some y else none
  | _, _ => none
def setBool : Nat → Lf → Option Bool
  | 0, .v .bool y => some y
  | _, _ => none
def setStr : Nat → Lf → Option ByteArray
  | 0, .v .str y => some y
  | _, _ => none
def setSl (t : Ty) : Nat → Lf → Md → Option (List t.den)
  | 0, .v (.sl t') y, .fz => if h : t' = t then some (cast (congrArg (fun t => List (Ty.den t)) h) y) else none
  | 0, .nil, _ => some []
  | _, _, _ => none

/-- A value of kind t, cell j set anew; m: whose the rows inside are. -/
def setLf : (t : Ty) → t.den → Nat → Lf → Md → Option t.den
  | .int k, _, j, l, _ => setInt k j l
  | .bool, _, j, l, _ => setBool j l
  | .str, _, j, l, _ => setStr j l
  | .sl t, _, j, l, m => setSl t j l m
  | .pair a b, x, j, l, m => cond (Nat.blt j a.lv) ((setLf a x.1 j l m).map fun y => (y, x.2)) ((setLf b x.2 (j - a.lv) l m).map fun y => (x.1, y))

def setLfs (t : Ty) (m : Md) : t.den → Nat → List Lf → Option t.den
  | x, _, [] => some x
  | x, j, l :: ls => match setLf t x j l m with
    | some y => setLfs t m y (j + 1) ls
    | none => none

section
variable {P : Program} {T : Tab} {n : Nat} {w0 : World} {E0 : Env0} {s : St} {ops : Array Oper} {Q : Exit → St → Prop} {rest : List Oper}
variable {w w' : World} {E E' : Env} {μ μ' : Nat → Value} {H H' : Heap}

theorem setLf_rep {r : Root} : ∀ (t : Ty) (x : t.den) (j : Nat) (a : Lf) (m : Md) (x' : t.den) (p : Nat → Pos) (g : Nat → Option Value) (y : Value), setLf t x j a m = some x' → LR w E μ H a y → Rep w E r t x m p g →
    Rep w E r t x' m p (fun k => if k = j then some y else g k)
  | .int k, x, j, a, m, x', p, g, y, h, ha, hr => by
    simp only [setLf] at h
    unfold setInt at h
    split at h
    · rename_i k2 z
      split at h
      · rename_i hk
        subst hk
        simp only [Option.some.injEq] at h
        subst h
        simp only [Rep, if_true]
        rw [LR_int.1 ha]
      · simp at h
    · simp at h
  | .bool, x, j, a, m, x', p, g, y, h, ha, hr => by
    simp only [setLf] at h
    unfold setBool at h
    split at h
    · simp only [Option.some.injEq] at h
      subst h
      simp only [Rep, if_true]
      rw [LR_bool.1 ha]
    · simp at h
  | .str, x, j, a, m, x', p, g, y, h, ha, hr => by
    simp only [setLf] at h
    unfold setStr at h
    split at h
    · simp only [Option.some.injEq] at h
      subst h
      simp only [Rep, if_true]
      rw [LR_str.1 ha]
    · simp at h
  | .sl t, x, j, a, m, x', p, g, y, h, ha, hr => by
    simp only [setLf] at h
    unfold setSl at h
    split at h
    · split at h
      · rename_i t' z hk
        subst hk
        simp only [Option.some.injEq, cast_eq] at h
        subst h
        have ha' : Rep w E (.res 0) (.sl _) z .fz (fun _ => .top) (at0 y) := ha
        exact Rep.fz (fun b hb => ⟨hb, rfl⟩) (.sl _) z (fun k v _ hv => by
          simp only [at0] at hv
          split at hv
          · rename_i hk; subst hk; simpa using hv
          · simp at hv) ha'
      · simp at h
    · simp only [Option.some.injEq] at h
      subst h
      obtain ⟨ad, rfl⟩ := ha
      refine ⟨.slice ad 0 0, by simp, ?_⟩
      by_cases hm : m = .fz
      · exact .inl ⟨hm, .inl ⟨rfl, ad, 0, rfl⟩⟩
      · exact .inr ⟨hm, .inl ⟨rfl, ad, rfl⟩⟩
    · simp at h
  | .pair t u, x, j, a, m, x', p, g, y, h, ha, hr => by
    unfold setLf at h
    cases hb : Nat.blt j t.lv with
    | true =>
      rw [hb] at h
      have hlt : j < t.lv := by simpa [Nat.blt_eq] using hb
      simp only [cond_true, Option.map_eq_some_iff] at h
      obtain ⟨z, h1, rfl⟩ := h
      refine ⟨setLf_rep t x.1 j a m z p g y h1 ha hr.1, ?_⟩
      have e : (fun i => (fun k => if k = j then some y else g k) (i + t.lv)) = fun i => g (i + t.lv) := by
        funext i
        simp only
        rw [if_neg (by omega)]
      rw [e]
      exact hr.2
    | false =>
      rw [hb] at h
      have hge : ¬ j < t.lv := by
        intro hlt
        have : Nat.blt j t.lv = true := by simpa [Nat.blt_eq] using hlt
        rw [hb] at this
        simp at this
      simp only [cond_false, Option.map_eq_some_iff] at h
      obtain ⟨z, h1, rfl⟩ := h
      constructor
      · refine Rep.move (fun _ => True) id (fun b hb => ⟨hb, rfl⟩) (fun b q _ hq => ⟨hq, rfl, fun k => ⟨trivial, rfl⟩⟩) t x.1 m p p g _ (fun _ => ⟨fun _ => trivial, fun _ => rfl⟩) (fun i v hi hv => ?_) hr.1
        rw [if_neg (by omega)]
        exact hv
      · have := setLf_rep u x.2 (j - t.lv) a m z _ _ y h1 ha hr.2
        have e : (fun i => (fun k => if k = j then some y else g k) (i + t.lv)) = fun k => if k = j - t.lv then some y else g (k + t.lv) := by
          funext i
          simp only
          by_cases hi : i = j - t.lv
          · rw [if_pos (by omega), if_pos hi]
          · rw [if_neg (by omega), if_neg hi]
        rw [e]
        exact this

theorem setLfs_rep {r : Root} {t : Ty} {m : Md} {p : Nat → Pos} : ∀ (ls : List Lf) (ys : List Value) (x : t.den) (j : Nat) (x' : t.den) (g : Nat → Option Value), setLfs t m x j ls = some x' → All2 (LR w E μ H) ls ys → Rep w E r t x m p g →
    Rep w E r t x' m p (fun k => if j ≤ k ∧ k < j + ys.length then ys[k - j]? else g k)
  | [], _, x, j, x', g, h, .nil, hr => by
    simp only [setLfs, Option.some.injEq] at h
    subst h
    have e : (fun k => if j ≤ k ∧ k < j + ([] : List Value).length then ([] : List Value)[k - j]? else g k) = g := by
      funext k
      exact if_neg (fun hh => by have h1 := hh.2; simp at h1; omega)
    rw [e]
    exact hr
  | l :: ls, y :: ys, x, j, x', g, h, .cons h1 h2, hr => by
    simp only [setLfs] at h
    split at h
    · rename_i z hz
      have a1 := setLf_rep t x j l m z p g y hz h1 hr
      have a2 := setLfs_rep ls ys z (j + 1) x' _ h h2 a1
      have e : (fun k => if j + 1 ≤ k ∧ k < j + 1 + ys.length then ys[k - (j + 1)]? else if k = j then some y else g k) = fun k => if j ≤ k ∧ k < j + (y :: ys).length then (y :: ys)[k - j]? else g k := by
        funext k
        by_cases hk : k = j
        · subst hk
          rw [if_neg (by omega), if_pos rfl, if_pos (by simp)]
          try simp
        · by_cases hk2 : j + 1 ≤ k ∧ k < j + 1 + ys.length
          · rw [if_pos hk2, if_pos (by simp; omega), show k - j = (k - (j + 1)) + 1 by omega, List.getElem?_cons_succ]
          · rw [if_neg hk2, if_neg hk, if_neg (by simp; omega)]
      rw [← e]
      exact a2
    · simp at h

/-- Cells j, .. of a row of cells are set anew. -/
def spl (l : List Lf) (j : Nat) (cs : List Lf) : List Lf := l.take j ++ cs ++ l.drop (j + cs.length)

def evStore (T : Tab) (s : St) (o : Oper) : Option (Prop × Heap) :=
  match o.guard, o.dst, o.op with
  | none, none, .store t ad x => match T t, opnd s.sl ad, opnd s.sl x with
    | some ti, some (.lf (.ptr id ver i j)), some v => match cellsOf v with
      | some cs => cond (Nat.beq cs.length ti.ty.lv) (match s.H[id]? with
        | some (some (.box l tid)) => cond (Nat.ble (j + cs.length) l.length) (some (True, s.H.set id (some (.box (spl l j cs) tid)))) none
        | some (some (.arr cur t' xs m)) => cond (Nat.beq ver cur && Nat.ble (j + cs.length) t'.lv) (match setLfs t' m.nest (xs.getD i t'.dflt) j cs with
          | some y => some (i < xs.length, s.H.set id (some (.arr cur t' (xs.set i y) m)))
          | none => none) none
        | _ => none) none
      | none => none
    | _, _, _ => none
  | _, _, _ => none

theorem KpH.set {id : Nat} {b b' : Option Blk} (hb : H[id]? = some b) (hk : Kp (μ id) (μ id) b b') : KpH μ μ H (H.set id b') := by
  intro i c hc
  by_cases h : i = id
  · subst h
    rw [hb] at hc
    simp only [Option.some.injEq] at hc
    subst hc
    have hlt : i < H.length := (List.getElem?_eq_some_iff.1 hb).1
    exact ⟨b', by simp [hlt], hk⟩
  · exact ⟨c, by rw [List.getElem?_set_ne (Ne.symm h)]; exact hc, Kp.refl _ _⟩

/-- Cells of one of our blocks have been written: all else is as it was. -/
theorem MR.wrote {k : Nat} (hM : MR w E μ H k) {id b : Nat} {blk blk' : Blk} (hH : H[id]? = some (some blk)) (hκ : E.κ b = some (.id id, .top)) {arr : Array Value} {ty : TypeId} (hb : w.heap[b]? = some (.cells arr ty (0, 0)))
    (hk : Kp (μ id) (μ id) (some blk) (some blk')) (hw : ∀ c, c ≠ b → w'.heap[c]? = w.heap[c]?) (hsz : w'.heap.size = w.heap.size) (hos : w'.os = w.os ∧ w'.tape = w.tape ∧ w'.output = w.output)
    (hN : NB w' E μ (H.set id (some blk')) id blk') :
    MR w' E μ (H.set id (some blk')) k ∧ Ext w E w' E ∧ (∀ c, E.S c → E.S c ∧ w'.heap[c]? = w.heap[c]?) ∧ KpH μ μ H (H.set id (some blk')) := by
  have hne : ∀ c, E.S c → c ≠ b := fun c hc e => by subst e; have := hM.apart c hc; rw [hκ] at this; simp at this
  have hS : ∀ c, E.S c → E.S c ∧ w'.heap[c]? = w.heap[c]? := fun c hc => ⟨hc, hw c (hne c hc)⟩
  have hK : KpH μ μ H (H.set id (some blk')) := KpH.set hH hk
  refine ⟨MR.step hM hM.apart (fun c hc => by rw [hsz]; exact hM.ltS c hc) (fun c hc => by rw [hsz]; exact hM.ltκ c hc) (fun c r q hc => by simpa using hM.roots c r q hc) hS hK ?_, ?_, hS, hK⟩
  · intro i bl hi
    by_cases h : i = id
    · subst h
      have hlt : i < H.length := (List.getElem?_eq_some_iff.1 hH).1
      simp only [List.getElem?_set_self hlt, Option.some.injEq] at hi
      subst hi
      exact .inr hN
    · rw [List.getElem?_set_ne (Ne.symm h)] at hi
      refine .inl ⟨hi, rfl, fun c q hc => ⟨hc, hw c (fun e => ?_)⟩⟩
      subst e
      rw [hκ] at hc
      simp only [Option.some.injEq, Prod.mk.injEq, Root.id.injEq] at hc
      exact h hc.1.symm
  · exact ⟨hos.1, hos.2.1, hos.2.2, by omega, fun c hc hn => hw c (fun e => by subst e; rw [hκ] at hn; simp at hn), fun c hc => hc, fun c hc => .inl hc, fun c hc => .inl hc⟩

theorem All2.take {α β : Type} {R : α → β → Prop} {xs : List α} {ys : List β} (h : All2 R xs ys) (k : Nat) : All2 R (xs.take k) (ys.take k) := by
  induction h generalizing k with
  | nil => simp; exact .nil
  | cons h1 h2 ih => cases k with
    | zero => exact .nil
    | succ k => exact .cons h1 (ih k)

theorem All2.drop {α β : Type} {R : α → β → Prop} {xs : List α} {ys : List β} (h : All2 R xs ys) (k : Nat) : All2 R (xs.drop k) (ys.drop k) := by
  induction h generalizing k with
  | nil => simp; exact .nil
  | cons h1 h2 ih => cases k with
    | zero => exact .cons h1 h2
    | succ k => exact ih k

theorem setRow_other (w : World) (g c : Nat) (arr : Array Value) (h : c ≠ g) : (w.setRow g arr).heap[c]? = w.heap[c]? := by
  simp only [World.setRow, Array.getElem?_modify]
  rw [if_neg (by omega)]

theorem setRow_this (w : World) (g : Nat) (cur arr : Array Value) (t : TypeId) (fr : Nat × Nat) (h : w.heap[g]? = some (.cells cur t fr)) : (w.setRow g arr).heap[g]? = some (.cells arr t fr) := by
  simp [World.setRow, Array.getElem?_modify, h]

theorem storeVar_run (hT : TabOk P T) {t : TypeId} {ti : TI} (hi : T t = some ti) {b o : Nat} {cur : Array Value} {ty : TypeId} (hb : w.heap[b]? = some (.cells cur ty (0, 0))) {y : Value} (hl : y.cells.size = ti.ty.lv) (ho : o + y.cells.size ≤ cur.size)
    (h1 : ∀ v ∈ y.cells.toList, v.oneCell' = true) :
    (storeVar t ⟨b, o, none⟩ y).run P w = .ok () (w.setRow b (cur.toList.take o ++ y.cells.toList ++ cur.toList.drop (o + y.cells.size)).toArray) := by
  have := run_storeCells_at P b o ty y.cells.toList 0 cur w hb (by simpa using ho) h1
  simp only [Nat.add_zero, Array.length_toList] at this
  simp only [storeVar, Sem.run_bind, hT.size hi, Result.andThen_ok, hl, ne_eq, not_true_eq_false, if_false]
  rw [hl] at this
  exact this

theorem All2.all_one {l : List Lf} {ys : List Value} (h : All2 (LR w E μ H) l ys) : ∀ v ∈ ys, v.oneCell' = true := by
  induction h with
  | nil => simp
  | cons h1 h2 ih =>
    intro v hv
    rcases List.mem_cons.1 hv with rfl | hv
    · exact LR_one h1
    · exact ih v hv

theorem VO.store {o : Oper} {φ : Prop} {H' : Heap} (hT : TabOk P T) (h : evStore T s o = some (φ, H')) (hφ : φ) (k : VO P n w0 E0 ops Q rest ⟨s.sl, H'⟩) : VO P n w0 E0 ops Q (o :: rest) s := by
  intro a w hs
  obtain ⟨E, μ, hA⟩ := hs.at
  unfold evStore at h
  split at h
  · rename_i t ad x hg hd ho
    split at h
    · rename_i ti id ver i j v hi had hx
      split at h
      · rename_i cs hcs
        cases hb : Nat.beq cs.length ti.ty.lv with
        | false => rw [hb] at h; simp at h
        | true =>
          rw [hb] at h
          simp only [cond_true] at h
          have hlen : cs.length = ti.ty.lv := Nat.eq_of_beq_eq_true hb
          have hy := cellsOf_run hcs (hA.opnd hx)
          have hsz : (a.eval x).cells.size = ti.ty.lv := by rw [← hlen, hy.length, Array.length_toList]
          have hp := (hA.opnd had).2
          have fin : ∀ (b q : Nat) (cur : Array Value) (ty : TypeId), a.eval ad = .pointer (some ⟨b, q, none⟩) → w.heap[b]? = some (.cells cur ty (0, 0)) → q + cs.length ≤ cur.size →
              (∀ w', w' = w.setRow b (cur.toList.take q ++ (a.eval x).cells.toList ++ cur.toList.drop (q + (a.eval x).cells.size)).toArray → ∃ E' μ', MR w' E' μ' H' 0 ∧ Ext w E w' E' ∧ (∀ c, E.S c → E'.S c ∧ w'.heap[c]? = w.heap[c]?) ∧ KpH μ μ' s.H H') →
              wpList P ops (fun e a' w' => ∃ s', SRel n w0 E0 s' a' w' ∧ Q e s') (o :: rest) a w := by
            intro b q cur ty e1 e2 e3 e4
            obtain ⟨E', μ', m1, m2, m3, m4⟩ := e4 _ rfl
            refine wpList_skip (w' := w.setRow b (cur.toList.take q ++ (a.eval x).cells.toList ++ cur.toList.drop (q + (a.eval x).cells.size)).toArray) hg ?_ ?_
            · simp only [execOp, ho, Instr.storeAt, e1, Instr.sureAddr, Sem.run_bind, Sem.run_pure, Result.andThen_ok]
              rw [storeVar_run hT hi e2 hsz (by rw [hsz, ← hlen]; exact e3) hy.all_one]
              rfl
            · rw [hd]
              exact k _ _ (hA.unput m1 m2 m3 m4).rel
          split at h
          · rename_i l tid hH
            cases hbl : Nat.ble (j + cs.length) l.length with
            | false => rw [hbl] at h; simp at h
            | true =>
              rw [hbl] at h
              simp only [cond_true, Option.some.injEq, Prod.mk.injEq] at h
              obtain ⟨rfl, rfl⟩ := h
              have hle : j + cs.length ≤ l.length := by simpa using hbl
              rw [hH] at hp
              obtain ⟨b, h1, h2⟩ := hp
              obtain ⟨b', arr, f1, f2, f3, f4⟩ := hA.mr.blks id _ hH
              rw [h1] at f1
              simp only [Value.pointer.injEq, Option.some.injEq, Addr.mk.injEq, and_true] at f1
              subst f1
              refine fin b j arr tid h2 f3 (by have := f4.length; simp at this; omega) ?_
              rintro w' rfl
              have e : (a.eval x).cells.size = cs.length := by rw [hsz, hlen]
              generalize hnew : (arr.toList.take j ++ (a.eval x).cells.toList ++ arr.toList.drop (j + (a.eval x).cells.size)).toArray = arr'
              have hlist : arr'.toList = arr.toList.take j ++ (a.eval x).cells.toList ++ arr.toList.drop (j + cs.length) := by rw [← hnew, e]
              have hother := fun c (hc : c ≠ b) => setRow_other w b c arr' hc
              have hS : ∀ c, E.S c → E.S c ∧ (w.setRow b arr').heap[c]? = w.heap[c]? := fun c hc => ⟨hc, hother c (fun e => by subst e; have := hA.mr.apart c hc; rw [f2] at this; simp at this)⟩
              obtain ⟨m1, m2, m3, m4⟩ := MR.wrote (blk' := .box (spl l j cs) tid) hA.mr hH f2 f3 (by simp [Kp]) hother (by simp) ⟨rfl, rfl, rfl⟩ (by
                refine ⟨b, _, h1, f2, setRow_this w b arr _ tid _ f3, ?_⟩
                have hkeep := LR.keep (μ := μ) (μ' := μ) hS (KpH.set (b' := some (.box (spl l j cs) tid)) hH (by simp [Kp]))
                rw [hlist]
                exact (((f4.take j).append hy).append (f4.drop (j + cs.length))).imp hkeep)
              exact ⟨E, μ, m1, m2, m3, m4⟩
          · rename_i cur t' xs m hH
            cases hc : (Nat.beq ver cur && Nat.ble (j + cs.length) t'.lv) with
            | false => rw [hc] at h; simp at h
            | true =>
              rw [hc] at h
              simp only [cond_true] at h
              simp only [Bool.and_eq_true] at hc
              obtain ⟨hv, hle⟩ := hc
              have hle : j + cs.length ≤ t'.lv := by simpa using hle
              split at h
              · rename_i y hset
                simp only [Option.some.injEq, Prod.mk.injEq] at h
                obtain ⟨rfl, rfl⟩ := h
                rw [hH] at hp
                obtain ⟨b, nn, cc, h1, h2⟩ := hp.2 (Nat.eq_of_beq_eq_true hv)
                obtain ⟨hm, f0⟩ := hA.mr.arr hH
                rcases f0 with ⟨rfl, _⟩ | ⟨b', c, arr, ty, f1, f2, f3, f4, f5, f6⟩
                · simp at hφ
                · rw [h1] at f1
                  simp only [Value.slice.injEq, Option.some.injEq, Addr.mk.injEq, and_true] at f1
                  obtain ⟨rfl, rfl, rfl⟩ := f1
                  have hmul : (i + 1) * t'.lv ≤ cc * t'.lv := Nat.mul_le_mul_right _ (by omega)
                  have hmul' : (i + 1) * t'.lv = i * t'.lv + t'.lv := by rw [Nat.add_mul, Nat.one_mul]
                  have e : (a.eval x).cells.size = cs.length := by rw [hsz, hlen]
                  refine fin b (i * t'.lv + j) arr ty h2 f3 (by rw [f4]; omega) ?_
                  rintro w' rfl
                  generalize hnew : (arr.toList.take (i * t'.lv + j) ++ (a.eval x).cells.toList ++ arr.toList.drop (i * t'.lv + j + (a.eval x).cells.size)).toArray = arr'
                  have hother := fun c (hc : c ≠ b) => setRow_other w b c arr' hc
                  have hthis := setRow_this w b arr arr' ty _ f3
                  have hS : ∀ c, E.S c → E.S c ∧ (w.setRow b arr').heap[c]? = w.heap[c]? := fun c hc => ⟨hc, hother c (fun e => by subst e; have := hA.mr.apart c hc; rw [f5] at this; simp at this)⟩
                  have hcell : ∀ q, cellAt (w.setRow b arr') b q = if i * t'.lv + j ≤ q ∧ q < i * t'.lv + j + (a.eval x).cells.toList.length then (a.eval x).cells.toList[q - (i * t'.lv + j)]? else cellAt w b q := by
                    intro q
                    have ha : arr.size = cc * t'.lv := f4
                    simp only [cellAt, World.cell?, hthis, f3, Option.isSome_none, Bool.false_eq_true, if_false]
                    rw [← hnew]
                    simp only [List.getElem?_toArray, List.append_assoc, List.getElem?_append, List.length_take, Array.length_toList, List.length_append]
                    rw [Nat.min_eq_left (by omega)]
                    by_cases q1 : q < i * t'.lv + j
                    · rw [if_pos q1, if_neg (by omega), List.getElem?_take, if_pos q1]; simp
                    · rw [if_neg q1]
                      by_cases q2 : q - (i * t'.lv + j) < (a.eval x).cells.size
                      · rw [if_pos q2, if_pos (by omega)]
                      · rw [if_neg q2, if_neg (by omega), List.getElem?_drop]
                        simp only [Array.getElem?_toList]
                        congr 1
                        omega
                  have hrep : ∀ (i' : Nat) (hi' : i' < xs.length), Rep (w.setRow b arr') E (.id id) t' xs[i'] m.nest (fun q => .inside b (i' * t'.lv + q)) (fun q => cellAt w b (i' * t'.lv + q)) := by
                    intro i' hi'
                    refine Rep.move (fun q => ∃ b k, q = Pos.inside b k) (fun q => q) hS (fun c q hq hc => ?_) t' _ m.nest _ _ _ _ (fun _ => ⟨fun q => ⟨_, _, rfl⟩, fun _ => rfl⟩) (fun q v _ hv => hv) (f6 i' hi')
                    obtain ⟨b1, k1, rfl⟩ := hq
                    refine ⟨hc, hother c (fun e => ?_), fun k => ⟨⟨_, _, rfl⟩, rfl⟩⟩
                    subst e
                    rw [f5] at hc
                    simp at hc
                  have hkeep := LR.keep (μ := μ) (μ' := μ) hS (KpH.set (H := s.H) (b' := some (.arr cur t' (xs.set i y) m)) hH (by simp [Kp]))
                  obtain ⟨m1, m2, m3, m4⟩ := MR.wrote (blk' := .arr cur t' (xs.set i y) m) hA.mr hH f5 f3 (by simp [Kp]) hother (by simp) ⟨rfl, rfl, rfl⟩ (by
                    refine ⟨hm, _, rfl, .inr ⟨hm, .inr ⟨b, cc, arr', ty, by simpa [at0] using h1, by simpa using f2, hthis, ?_, f5, ?_⟩⟩⟩
                    · have ha : arr.size = cc * t'.lv := f4
                      rw [← hnew]
                      simp only [List.size_toArray, List.length_append, List.length_take, List.length_drop, Array.length_toList]
                      omega
                    · intro i' hi'
                      have hil : i' < xs.length := by simpa using hi'
                      by_cases e' : i' = i
                      · subst e'
                        have hx0 : xs.getD i' t'.dflt = xs[i'] := by simp [List.getD, List.getElem?_eq_getElem hil]
                        rw [hx0] at hset
                        have := setLfs_rep cs _ _ j y _ hset (hy.imp hkeep) (hrep i' hil)
                        simp only [List.getElem_set_self]
                        refine Rep.move (fun _ => True) (fun q => q) (fun c hc => ⟨hc, rfl⟩) (fun c q _ hq => ⟨hq, rfl, fun k => ⟨trivial, rfl⟩⟩) t' y m.nest _ _ _ _ (fun _ => ⟨fun _ => trivial, fun _ => rfl⟩) (fun q v hq hv => ?_) this
                        rw [hcell]
                        by_cases q1 : j ≤ q ∧ q < j + (a.eval x).cells.toList.length
                        · rw [if_pos q1] at hv
                          rw [if_pos (by omega), show i' * t'.lv + q - (i' * t'.lv + j) = q - j by omega]
                          exact hv
                        · rw [if_neg q1] at hv
                          rw [if_neg (by omega)]
                          exact hv
                      · simp only [List.getElem_set_ne (Ne.symm e')]
                        refine Rep.move (fun _ => True) (fun q => q) (fun c hc => ⟨hc, rfl⟩) (fun c q _ hq => ⟨hq, rfl, fun k => ⟨trivial, rfl⟩⟩) t' _ m.nest _ _ _ _ (fun _ => ⟨fun _ => trivial, fun _ => rfl⟩) (fun q v hq hv => ?_) (hrep i' hil)
                        rw [hcell, if_neg]
                        · exact hv
                        · have hl : (a.eval x).cells.toList.length = cs.length := by rw [Array.length_toList, e]
                          rcases Nat.lt_or_ge i' i with hlt | hge
                          · have : (i' + 1) * t'.lv ≤ i * t'.lv := Nat.mul_le_mul_right _ hlt
                            rw [Nat.add_mul, Nat.one_mul] at this
                            omega
                          · have : (i + 1) * t'.lv ≤ i' * t'.lv := Nat.mul_le_mul_right _ (by omega)
                            omega)
                  exact ⟨E, μ, m1, m2, m3, m4⟩
              · simp at h
          · simp at h
      · simp at h
    · simp at h
  · simp at h
end
end Go.Proofs.Ytgpddckjpokclaa.Vc
