/- A calculus of values over the model, thirteenth part: the step over an append. It speaks of any program. -/
import Derived.Test.YtgpddckjpokclaaVc12
namespace Go.Proofs.Ytgpddckjpokclaa.Vc
open Go Go.RowKit
set_option linter.unusedVariables false
set_option linter.unusedSimpArgs false

section
variable {P : Program} {T : Tab} {n : Nat} {w0 : World} {E0 : Env0} {s : St} {ops : Array Oper} {Q : Exit → St → Prop} {rest : List Oper}
variable {w w' : World} {E E' : Env} {μ μ' : Nat → Value} {H H' : Heap}

theorem drew_alloc_heap (w : World) (o : Obj) : (w.drew.alloc o).heap = w.heap.push o := rfl

theorem KpH.setAt {id : Nat} {b b' : Option Blk} {y : Value} (hb : H[id]? = some b) (hk : Kp (μ id) y b b') : KpH μ (putμ μ id y) H (H.set id b') := by
  intro i c hc
  by_cases h : i = id
  · subst h
    rw [hb] at hc
    simp only [Option.some.injEq] at hc
    subst hc
    have hlt : i < H.length := (List.getElem?_eq_some_iff.1 hb).1
    exact ⟨b', by simp [hlt], by simpa [putμ] using hk⟩
  · refine ⟨c, by rw [List.getElem?_set_ne (Ne.symm h)]; exact hc, ?_⟩
    rw [show putμ μ id y i = μ i by simp [putμ, h]]
    exact Kp.refl _ _

/-- The rows of two lists, side by side. -/
theorem rows_append {r : Root} {e : Ty} {m : Md} {p : Nat → Nat → Pos} {xs ys : List e.den} {olds news : List Value} {get : Nat → Option Value} (hlo : olds.length = xs.length * e.lv) (hln : news.length = ys.length * e.lv)
    (hg : ∀ (j : Nat) v, (olds ++ news)[j]? = some v → get j = some v)
    (h1 : ∀ i (h : i < xs.length), Rep w E r e xs[i] m (p i) (fun j => olds[i * e.lv + j]?))
    (h2 : ∀ i (h : i < ys.length), Rep w E r e ys[i] m (p (xs.length + i)) (fun j => news[i * e.lv + j]?)) :
    ∀ i (h : i < (xs ++ ys).length), Rep w E r e (xs ++ ys)[i] m (p i) (fun j => get (i * e.lv + j)) := by
  intro i hi
  by_cases hx : i < xs.length
  · rw [List.getElem_append_left hx]
    refine Rep.move (fun _ => True) (fun q => q) (fun c hc => ⟨hc, rfl⟩) (fun c q _ hq => ⟨hq, rfl, fun k => ⟨trivial, rfl⟩⟩) e _ m _ _ _ _ (fun _ => ⟨fun _ => trivial, fun _ => rfl⟩) (fun j v hj hv => ?_) (h1 i hx)
    apply hg
    rw [List.getElem?_append_left (List.getElem?_eq_some_iff.1 hv).1]
    exact hv
  · have hge : xs.length ≤ i := by omega
    rw [List.getElem_append_right hge]
    have hlt : i - xs.length < ys.length := by simp at hi; omega
    have := h2 (i - xs.length) hlt
    rw [show xs.length + (i - xs.length) = i by omega] at this
    refine Rep.move (fun _ => True) (fun q => q) (fun c hc => ⟨hc, rfl⟩) (fun c q _ hq => ⟨hq, rfl, fun k => ⟨trivial, rfl⟩⟩) e _ m _ _ _ _ (fun _ => ⟨fun _ => trivial, fun _ => rfl⟩) (fun j v hj hv => ?_) this
    apply hg
    have hmul : xs.length * e.lv ≤ i * e.lv := Nat.mul_le_mul_right _ hge
    rw [List.getElem?_append_right (by omega), hlo]
    rw [Nat.sub_mul] at hv
    rw [show i * e.lv + j - xs.length * e.lv = i * e.lv - xs.length * e.lv + j by omega]
    exact hv

/-- Frozen rows are as good as flat ones among rows of ours. -/
theorem Rep.nested {r r' : Root} {e : Ty} {x : e.den} {m : Md} {p p' : Nat → Pos} {g : Nat → Option Value} (hfl : m.nest = .fz ∨ e.flat = true) (h : Rep w E r e x .fz p g) : Rep w E r' e x m.nest p' g := by
  rcases hfl with hf | hf
  · rw [hf]; exact Rep.fz (fun c hc => ⟨hc, rfl⟩) e x (fun _ _ _ h => h) h
  · exact Rep.flat hf h

theorem mdOf_nest (e : Ty) : (mdOf e).nest = .fz ∨ e.flat = true := by
  unfold mdOf
  cases h : e.flat
  · exact .inl rfl
  · exact .inr rfl

/-- The environment behind a row's move from block g to block b. -/
def movedκ (E : Env) (id g b : Nat) : Env := ⟨E.S, fun c => if c = b then some (.id id, .top) else if c = g then none else match E.κ c with
  | some (r, .inside g' k) => if r = .id id ∧ g' = g then some (.id id, .inside b k) else some (r, .inside g' k)
  | o => o⟩

theorem app_nil {a : Act} (hT : TabOk P T) (hA : At n w0 E0 s a w E μ) {o : Oper} {c : Call} {x y : Operand} {t : TypeId} {d : Nat} (ho : o.op = .call c) (hcal : c.callee = .builtin .append) (hargs : c.args = #[x, y]) {t' : TypeId} (hts : c.argTypes = #[t, t'])
    (hg : o.guard = none) (hd : o.dst = some d) (hdn : d < n) {ti : TI} {e : Ty} (he : elemTy T t = some (ti, e)) {ys : List e.den} (hx : ∃ ad, a.eval x = .slice ad 0 0) (hy : ∀ info z, P.info? ti.elem = some info → info.zero = some z → info.size = e.lv → z.cells.toList = e.zeros → ∃ news, SrcG P w E e ys t t' o.type ti.elem info.bytes (a.eval y) news) (hl : ys.length ≤ lim e)
    (k : VO P n w0 E0 ops Q rest ⟨(d, .lf (.hd s.H.length 0 none)) :: s.sl, s.H ++ [some (.arr 0 e ys (mdOf e))]⟩) :
    wpList P ops (fun e a' w' => ∃ s', SRel n w0 E0 s' a' w' ∧ Q e s') (o :: rest) a w := by
  obtain ⟨f1, ej, f2, f3⟩ := elemTy_under hT he
  obtain ⟨info, g1, g2, g3, _, g5, g6⟩ := (hT _ _ f2).info
  rw [f3] at g2 g3 g6
  obtain ⟨z, hz, hz'⟩ := Option.map_eq_some_iff.1 g3
  have hpos := lv_pos e
  have hzs : z.cells.size = e.lv := by rw [← Array.length_toList, hz', zeros_length]
  have hlim0 : lim e ≤ 140737488355328 := Nat.div_le_self _ _
  have hfit : ys.length * info.bytes ≤ 140737488355328 := by
    have a2 : lim e * (24 * e.lv) ≤ 140737488355328 := Nat.div_mul_le_self _ _
    have a3 : ys.length * info.bytes ≤ lim e * (24 * e.lv) := Nat.mul_le_mul hl (by omega)
    omega
  obtain ⟨ad0, hx⟩ := hx
  obtain ⟨news, n2, n5, hr0⟩ := hy info z g1 hz g2 hz'
  obtain ⟨y', w', hrun, hcase⟩ := hr0 ti.elem ad0 0 0 [] (by simp) (Nat.le_refl 0) (.inl ⟨rfl, rfl⟩) (by simpa using hfit) (by omega)
  refine wpList_value (y := y') (w' := w') hg ?_ ?_
  · simp only [execOp, ho, resolve, hcal, hargs, hts, Sem.run_bind, Sem.run_pure, Result.andThen_ok, invoke, builtin]
    simp only [List.map_toArray, List.map_cons, List.map_nil, hx, hrun, Result.andThen_ok]
  · rw [hd]
    rcases hcase with ⟨h0, hy', hw'⟩ | ⟨hm, g, cur, _, _, _, hroom, _⟩ | ⟨_, cap', cells, hcap, hy', hw', hcs, tail, htail⟩
    · have hys : ys = [] := List.length_eq_zero_iff.1 h0
      subst hys
      rw [hy', hw']
      have hK := KpH.push (μ := μ) s.H (some (.arr 0 e [] (mdOf e))) (.slice ad0 0 0)
      have hS : ∀ b, E.S b → E.S b ∧ w.heap[b]? = w.heap[b]? := fun b hb => ⟨hb, rfl⟩
      have hM : MR w E (putμ μ s.H.length (.slice ad0 0 0)) (s.H ++ [some (.arr 0 e [] (mdOf e))]) 0 := by
        refine MR.step hA.mr hA.mr.apart hA.mr.ltS hA.mr.ltκ (fun b r q h => ?_) hS hK (fun id blk h => ?_)
        · rcases hA.mr.roots b r q h with ⟨m, h1, h2⟩ | h1
          · exact .inl ⟨m, h1, by simp; omega⟩
          · exact .inr h1
        · by_cases hid : id < s.H.length
          · rw [List.getElem?_append_left hid] at h
            exact .inl ⟨h, by simp [putμ]; omega, fun b q hq => ⟨hq, rfl⟩⟩
          · have hlt := (List.getElem?_eq_some_iff.1 h).1
            have : id = s.H.length := by simp at hlt; omega
            subst this
            simp only [List.getElem?_concat_length, Option.some.injEq] at h
            subst h
            exact .inr ⟨mdOf_ne e, _, rfl, .inr ⟨mdOf_ne e, .inl ⟨rfl, ad0, by simp [putμ]⟩⟩⟩
      exact k _ _ (hA.put hdn hM (Ext.refl w E) hS hK (hd_new _ _ _ rfl e _ _)).rel
    · exact absurd hroom (by omega)
    · rw [hy', hw']
      simp only [Nat.zero_add] at hcap ⊢
      have hA' : MR w.drew E μ s.H 0 := ⟨hA.mr.apart, hA.mr.ltS, hA.mr.ltκ, hA.mr.roots, fun id blk h => NB.keep (w := w) (w' := w.drew) (fun b hb => ⟨hb, rfl⟩) (KpH.refl μ s.H) (fun b q hq => ⟨hq, rfl⟩) rfl (hA.mr.blks id blk h)⟩
      have hNB := arr_new (w := w.drew) (E := E) (μ := μ) (H := s.H) (c := cap') (cells := cells) (ty := ti.elem) (xs := ys) (m := mdOf e) (mdOf_ne e) hcap hcs (fun i hi => by
        have hS : ∀ b, E.S b → (putκ E w.drew.heap.size (.id s.H.length, .top)).S b ∧ (w.drew.alloc (.cells cells ti.elem)).heap[b]? = w.heap[b]? := fun b hb => ⟨hb, alloc_old w.drew _ (hA.mr.ltS b hb)⟩
        refine Rep.nested (mdOf_nest e) (Rep.fz hS e _ (r' := .res 0) (p' := fun _ => .top) (fun j v hj hv => ?_) (n5 i hi))
        have hlt := (List.getElem?_eq_some_iff.1 hv).1
        rw [← Array.getElem?_toList, htail, List.nil_append, List.getElem?_append_left hlt]
        exact hv) 0
      obtain ⟨m1, m2, m3⟩ := MR.alloc hA' _ ti.elem _ _ hNB
      have hE : Ext w E w.drew E := ⟨rfl, rfl, rfl, Nat.le_refl _, fun _ _ _ => rfl, fun _ h => h, fun _ h => .inl h, fun _ h => .inl h⟩
      exact k _ _ (hA.put hdn m1 (hE.trans hA.mr.apart m2) m3 (KpH.push s.H _ _) (hd_new _ _ _ rfl e ys (mdOf e))).rel

/-- Where a cell of block g stands once its row has moved to block b. -/
def mvPos (g b : Nat) : Pos → Pos
  | .inside g' k => if g' = g then .inside b k else .inside g' k
  | .top => .top

def mvκ (E : Env) (id g b : Nat) : Env := ⟨E.S, fun c => if c = b then some (.id id, .top) else if c = g then none else (E.κ c).map fun x => (x.1, if x.1 = .id id then mvPos g b x.2 else x.2)⟩

/-- Rows of ours, one block on. -/
theorem Rep.moved {id g b : Nat} (hS : ∀ c, E.S c → (mvκ E id g b).S c ∧ w'.heap[c]? = w.heap[c]?) (hg : ∀ q, E.κ g = some (.id id, q) → q = .top) (hb : E.κ b = none) (hh : ∀ c, E.κ c ≠ none → c ≠ g → w'.heap[c]? = w.heap[c]?)
    (t : Ty) (x : t.den) (m : Md) (q : Nat) (f f' : Nat → Option Value) (hf : ∀ j v, j < t.lv → f j = some v → f' j = some v) (h : Rep w E (.id id) t x m (fun j => .inside g (q + j)) f) :
    Rep w' (mvκ E id g b) (.id id) t x m (fun j => .inside b (q + j)) f' := by
  refine Rep.move (fun p => ∃ b k, p = Pos.inside b k) (mvPos g b) hS (fun c p hp hc => ?_) t x m _ _ f f' (fun _ => ⟨fun j => ⟨_, _, rfl⟩, fun j => by simp [mvPos]⟩) hf h
  obtain ⟨b1, k1, rfl⟩ := hp
  have hcg : c ≠ g := by
    intro e
    subst e
    have := hg _ hc
    simp at this
  have hcb : c ≠ b := by intro e; subst e; rw [hb] at hc; simp at hc
  refine ⟨?_, hh c (by simp [hc]) hcg, fun k => ⟨⟨_, _, rfl⟩, by simp [mvPos, hcg]⟩⟩
  simp only [mvκ, if_neg hcb, if_neg hcg, hc, Option.map_some, if_true]

theorem app_hd {a : Act} (hT : TabOk P T) (hA : At n w0 E0 s a w E μ) {o : Oper} {c : Call} {x y : Operand} {t : TypeId} {d : Nat} (ho : o.op = .call c) (hcal : c.callee = .builtin .append) (hargs : c.args = #[x, y]) {t' : TypeId} (hts : c.argTypes = #[t, t'])
    (hg : o.guard = none) (hd : o.dst = some d) (hdn : d < n) {ti : TI} {e : Ty} (he : elemTy T t = some (ti, e)) {ys xs : List e.den} {id ver : Nat} {m : Md} (hH : s.H[id]? = some (some (.arr ver e xs m))) (hx : a.eval x = μ id) (hfl : m.nest = .fz ∨ e.flat = true)
    (hy : ∀ info z, P.info? ti.elem = some info → info.zero = some z → info.size = e.lv → z.cells.toList = e.zeros → ∃ news, SrcG P w E e ys t t' o.type ti.elem info.bytes (a.eval y) news) (hl : xs.length + ys.length ≤ lim e)
    (k : VO P n w0 E0 ops Q rest ⟨(d, .lf (.hd id (ver + 1) none)) :: s.sl, s.H.set id (some (.arr (ver + 1) e (xs ++ ys) m))⟩) :
    wpList P ops (fun e a' w' => ∃ s', SRel n w0 E0 s' a' w' ∧ Q e s') (o :: rest) a w := by
  obtain ⟨f1, ej, f2, f3⟩ := elemTy_under hT he
  obtain ⟨info, g1, g2, g3, _, g5, g6⟩ := (hT _ _ f2).info
  rw [f3] at g2 g3 g6
  obtain ⟨z, hz, hz'⟩ := Option.map_eq_some_iff.1 g3
  have hpos := lv_pos e
  have hzs : z.cells.size = e.lv := by rw [← Array.length_toList, hz', zeros_length]
  have hlim0 : lim e ≤ 140737488355328 := Nat.div_le_self _ _
  have hfit : (xs.length + ys.length) * info.bytes ≤ 140737488355328 := by
    have a2 : lim e * (24 * e.lv) ≤ 140737488355328 := Nat.div_mul_le_self _ _
    have a3 : (xs.length + ys.length) * info.bytes ≤ lim e * (24 * e.lv) := Nat.mul_le_mul hl (by omega)
    omega
  obtain ⟨news, n2, n5, hr0⟩ := hy info z g1 hz g2 hz'
  have hidlt : id < s.H.length := (List.getElem?_eq_some_iff.1 hH).1
  obtain ⟨hm, hrow⟩ := hA.mr.arr hH
  -- the row as it stands
  obtain ⟨base, sCap, olds, ty, b1, b2, b3, b4⟩ : ∃ (base : Option Addr) (sCap : Nat) (olds : List Value) (ty : TypeId), μ id = .slice base xs.length sCap ∧ xs.length ≤ sCap ∧ olds.length = xs.length * e.lv ∧
      ((sCap = 0 ∧ olds = [] ∧ xs = []) ∨ ∃ g cur, base = some ⟨g, 0, none⟩ ∧ w.heap[g]? = some (.cells cur ty (0, 0)) ∧ cur.size = sCap * e.lv ∧ (∀ (j : Nat) v, olds[j]? = some v → w.cell? ((⟨g, 0, none⟩ : Addr).add j) = some v) ∧
        E.κ g = some (.id id, .top) ∧ (∀ i (h : i < xs.length), Rep w E (.id id) e xs[i] m.nest (fun j => .inside g (i * e.lv + j)) (fun j => olds[i * e.lv + j]?)) ∧ olds = cur.toList.take (xs.length * e.lv)) := by
    rcases hrow with ⟨rfl, ad0, h0⟩ | ⟨g, c', arr, ty, h1, h2, h3, h4, h5, h6⟩
    · exact ⟨ad0, 0, [], 0, by simpa using h0, by simp, by simp, .inl ⟨rfl, rfl, rfl⟩⟩
    · have hmul : xs.length * e.lv ≤ c' * e.lv := Nat.mul_le_mul_right _ h2
      have hlen : (arr.toList.take (xs.length * e.lv)).length = xs.length * e.lv := by simp; omega
      have hcell : ∀ q, q < xs.length * e.lv → cellAt w g q = (arr.toList.take (xs.length * e.lv))[q]? := by
        intro q hq
        simp only [cellAt, World.cell?, h3, Option.isSome_none, Bool.false_eq_true, if_false]
        rw [List.getElem?_take, if_pos hq, Array.getElem?_toList]
      refine ⟨some ⟨g, 0, none⟩, c', arr.toList.take (xs.length * e.lv), ty, h1, h2, hlen, .inr ⟨g, arr, rfl, h3, h4, ?_, h5, ?_, rfl⟩⟩
      · intro j v hv
        rw [add_at, Nat.zero_add]
        have hj := (List.getElem?_eq_some_iff.1 hv).1
        rw [hlen] at hj
        exact (hcell j hj).trans hv
      · intro i hi
        refine Rep.move (fun _ => True) (fun q => q) (fun c hc => ⟨hc, rfl⟩) (fun c q _ hq => ⟨hq, rfl, fun k => ⟨trivial, rfl⟩⟩) e _ m.nest _ _ _ _ (fun _ => ⟨fun _ => trivial, fun _ => rfl⟩) (fun j v hj hv => ?_) (h6 i hi)
        rw [← hcell]
        · exact hv
        · have : (i + 1) * e.lv ≤ xs.length * e.lv := Nat.mul_le_mul_right _ hi
          rw [Nat.add_mul, Nat.one_mul] at this
          omega
  obtain ⟨y', w', hrun, hcase⟩ := hr0 ty base xs.length sCap olds b3 b2
    (b4.imp (fun h => ⟨h.1, h.2.1⟩) (fun ⟨g, cur, h1, h2, h3, h4, _⟩ => ⟨g, cur, h1, h2, h3, h4⟩)) (by simpa using hfit) (by omega)
  refine wpList_value (y := y') (w' := w') hg ?_ ?_
  · simp only [execOp, ho, resolve, hcal, hargs, hts, Sem.run_bind, Sem.run_pure, Result.andThen_ok, invoke, builtin]
    simp only [List.map_toArray, List.map_cons, List.map_nil, hx, b1, hrun, Result.andThen_ok]
  · rw [hd]
    have hKp : ∀ y : Value, KpH μ (putμ μ id y) s.H (s.H.set id (some (.arr (ver + 1) e (xs ++ ys) m))) := fun y => KpH.setAt hH (.inl (Nat.lt_succ_self _))
    have hAR : ∀ (w' : World) (E' : Env) (y : Value), y.oneCell' = true → AR w' E' (putμ μ id y) (s.H.set id (some (.arr (ver + 1) e (xs ++ ys) m))) (.lf (.hd id (ver + 1) none)) y := by
      intro w' E' y h1
      simp [AR, LR, putμ, HdR, h1, hidlt]
    have hold : ∀ (w' : World) (E' : Env) (y : Value), (∀ (i : Nat) b q, i ≠ id → E.κ b = some (.id i, q) → E'.κ b = some (.id i, q) ∧ w'.heap[b]? = w.heap[b]?) → NB w' E' (putμ μ id y) (s.H.set id (some (.arr (ver + 1) e (xs ++ ys) m))) id (.arr (ver + 1) e (xs ++ ys) m) →
        ∀ (i : Nat) blk, (s.H.set id (some (.arr (ver + 1) e (xs ++ ys) m)))[i]? = some (some blk) → (s.H[i]? = some (some blk) ∧ (putμ μ id y) i = μ i ∧ ∀ b q, E.κ b = some (.id i, q) → E'.κ b = some (.id i, q) ∧ w'.heap[b]? = w.heap[b]?) ∨ NB w' E' (putμ μ id y) (s.H.set id (some (.arr (ver + 1) e (xs ++ ys) m))) i blk := by
      intro w' E' y h1 h2 i blk hi
      by_cases hid : i = id
      · subst hid
        simp only [List.getElem?_set_self hidlt, Option.some.injEq] at hi
        subst hi
        exact .inr h2
      · rw [List.getElem?_set_ne (Ne.symm hid)] at hi
        exact .inl ⟨hi, by simp [putμ, hid], fun b q => h1 i b q hid⟩
    rcases hcase with ⟨h0, hy', hw'⟩ | ⟨hm0, g, cur, hbg, hcur, hcs, hroom, hy', hw'⟩ | ⟨_, cap', cells, hcap, hy', hw', hcs, tail, htail⟩
    · have hys : ys = [] := List.length_eq_zero_iff.1 h0
      subst hys
      rw [hy', hw']
      have hS : ∀ b, E.S b → E.S b ∧ w.heap[b]? = w.heap[b]? := fun b hb => ⟨hb, rfl⟩
      have hM : MR w E (putμ μ id (.slice base xs.length sCap)) (s.H.set id (some (.arr (ver + 1) e (xs ++ []) m))) 0 := by
        refine MR.step hA.mr hA.mr.apart hA.mr.ltS hA.mr.ltκ (fun b r q h => by simpa using hA.mr.roots b r q h) hS (hKp _) (hold w E _ (fun i b q _ h => ⟨h, rfl⟩) ?_)
        have := hA.mr.blks id _ hH
        rw [← b1]
        simpa [NB, putμ] using this
      exact k _ _ (hA.put hdn hM (Ext.refl w E) hS (hKp _) (hAR _ _ _ rfl)).rel
    · rcases b4 with ⟨z1, z2, z3⟩ | ⟨g', cur', p1, p2, p3, p4, p5, p6, p7⟩
      · omega
      · rw [hbg] at p1
        simp only [Option.some.injEq, Addr.mk.injEq, and_true] at p1
        subst p1
        rw [hcur] at p2
        simp only [Option.some.injEq, Obj.cells.injEq, and_true] at p2
        subst p2
        rw [hy', hw']
        generalize hnew : (cur.toList.take (xs.length * e.lv) ++ news ++ cur.toList.drop (xs.length * e.lv + news.length)).toArray = arr'
        have hmul : (xs.length + ys.length) * e.lv ≤ sCap * e.lv := Nat.mul_le_mul_right _ hroom
        rw [Nat.add_mul] at hmul
        have hother := fun c (hc : c ≠ g) => setRow_other w g c arr' hc
        have hthis := setRow_this w g cur arr' ty _ hcur
        have hS : ∀ c, E.S c → E.S c ∧ (w.setRow g arr').heap[c]? = w.heap[c]? := fun c hc => ⟨hc, hother c (fun e => by subst e; have := hA.mr.apart c hc; rw [p5] at this; simp at this)⟩
        have hcell : ∀ (j : Nat) v, (olds ++ news)[j]? = some v → cellAt (w.setRow g arr') g j = some v := by
          intro j v hv
          have hj := (List.getElem?_eq_some_iff.1 hv).1
          simp only [cellAt, World.cell?, hthis, Option.isSome_none, Bool.false_eq_true, if_false]
          rw [← hnew, List.getElem?_toArray, List.getElem?_append_left (by rw [← p7]; exact hj), ← p7]
          exact hv
        have hin : ∀ (t : Ty) (z : t.den) (mm : Md) (p : Nat → Nat) (f f' : Nat → Option Value), (∀ j v, j < t.lv → f j = some v → f' j = some v) → Rep w E (.id id) t z mm (fun j => .inside g (p j)) f → Rep (w.setRow g arr') E (.id id) t z mm (fun j => .inside g (p j)) f' := by
          intro t z mm p f f' hff hr
          refine Rep.move (fun q => ∃ b k, q = Pos.inside b k) (fun q => q) hS (fun c q hq hc => ?_) t z mm _ _ f f' (fun _ => ⟨fun q => ⟨_, _, rfl⟩, fun _ => rfl⟩) hff hr
          obtain ⟨b1, k1, rfl⟩ := hq
          refine ⟨hc, hother c (fun e => ?_), fun k => ⟨⟨_, _, rfl⟩, rfl⟩⟩
          subst e
          rw [p5] at hc
          simp at hc
        have hrows := rows_append (w := w.setRow g arr') (E := E) (r := .id id) (m := m.nest) (p := fun i j => .inside g (i * e.lv + j)) (xs := xs) (ys := ys) (olds := olds) (news := news) (get := cellAt (w.setRow g arr') g) b3 n2 hcell
          (fun i hi => hin e _ _ _ _ _ (fun _ _ _ h => h) (p6 i hi))
          (fun i hi => Rep.nested hfl (Rep.fz hS e _ (r' := .res 0) (p' := fun _ => .top) (fun _ _ _ h => h) (n5 i hi)))
        have hM : MR (w.setRow g arr') E (putμ μ id (.slice base (xs.length + ys.length) sCap)) (s.H.set id (some (.arr (ver + 1) e (xs ++ ys) m))) 0 := by
          refine MR.step hA.mr hA.mr.apart (fun c hc => by simpa using hA.mr.ltS c hc) (fun c hc => by simpa using hA.mr.ltκ c hc) (fun b r q h => by simpa using hA.mr.roots b r q h) hS (hKp _) (hold _ E _ (fun i b q hi h => ⟨h, hother b (fun e => ?_)⟩) ?_)
          · subst e
            rw [p5] at h
            simp only [Option.some.injEq, Prod.mk.injEq, Root.id.injEq] at h
            exact hi h.1.symm
          · refine ⟨hm, _, rfl, .inr ⟨hm, .inr ⟨g, sCap, arr', ty, by simp [putμ, hbg], by simpa using hroom, hthis, ?_, p5, hrows⟩⟩⟩
            rw [← hnew]
            simp only [List.size_toArray, List.length_append, List.length_take, List.length_drop, Array.length_toList]
            omega
        refine k _ _ (hA.put hdn hM ⟨rfl, rfl, rfl, by simp, fun c hc hn => hother c (fun e => by subst e; rw [p5] at hn; simp at hn), fun c hc => hc, fun c hc => .inl hc, fun c hc => .inl hc⟩ hS (hKp _) (hAR _ _ _ rfl)).rel
    · rw [hy', hw']
      have hsize : ∀ c, E.κ c ≠ none → c ≠ w.heap.size := fun c h e => by have := hA.mr.ltκ c h; omega
      -- the block the row leaves, or the new one itself
      obtain ⟨g, q1, q2, q3⟩ : ∃ g, (∀ q, E.κ g = some (.id id, q) → q = .top) ∧ (∀ i b q, i ≠ id → E.κ b = some (.id i, q) → b ≠ g) ∧
          ∀ (w' : World), (∀ c, E.S c → (mvκ E id g w.heap.size).S c ∧ w'.heap[c]? = w.heap[c]?) → (∀ c, E.κ c ≠ none → c ≠ g → w'.heap[c]? = w.heap[c]?) → ∀ i (h : i < xs.length), Rep w' (mvκ E id g w.heap.size) (.id id) e xs[i] m.nest (fun j => .inside w.heap.size (i * e.lv + j)) (fun j => olds[i * e.lv + j]?) := by
        rcases b4 with ⟨z1, z2, z3⟩ | ⟨g, cur, p1, p2, p3, p4, p5, p6, p7⟩
        · subst z3
          refine ⟨w.heap.size, fun q hq => absurd rfl (hsize _ (by simp [hq])), fun i b q _ h => hsize b (by simp [h]), fun w' _ _ i hi => by simp at hi⟩
        · refine ⟨g, fun q hq => by rw [p5] at hq; simp at hq; exact hq.symm, fun i b q hi h e => ?_, fun w' hS hh i hi => ?_⟩
          · subst e
            rw [p5] at h
            simp only [Option.some.injEq, Prod.mk.injEq, Root.id.injEq] at h
            exact hi h.1.symm
          · refine Rep.moved hS (fun q hq => by rw [p5] at hq; simp at hq; exact hq.symm) ?_ hh e _ m.nest (i * e.lv) _ _ (fun _ _ _ h => h) (p6 i hi)
            cases hk : E.κ w.heap.size with
            | none => rfl
            | some z => exact absurd rfl (hsize _ (by simp [hk]))
      have hother : ∀ c, c < w.heap.size → (w.drew.alloc (.cells cells ti.elem)).heap[c]? = w.heap[c]? := fun c hc => alloc_old w.drew _ hc
      have hS : ∀ c, E.S c → (mvκ E id g w.heap.size).S c ∧ (w.drew.alloc (.cells cells ti.elem)).heap[c]? = w.heap[c]? := fun c hc => ⟨hc, hother c (hA.mr.ltS c hc)⟩
      have hrows := rows_append (w := w.drew.alloc (.cells cells ti.elem)) (E := mvκ E id g w.heap.size) (r := .id id) (m := m.nest) (p := fun i j => .inside w.heap.size (i * e.lv + j)) (xs := xs) (ys := ys) (olds := olds) (news := news) (get := fun j => cells[j]?) b3 n2
        (fun j v hv => by
          have hj := (List.getElem?_eq_some_iff.1 hv).1
          rw [← Array.getElem?_toList, htail, List.getElem?_append_left hj]
          exact hv)
        (q3 _ hS (fun c hc _ => hother c (hA.mr.ltκ c hc)))
        (fun i hi => Rep.nested hfl (Rep.fz hS e _ (r' := .res 0) (p' := fun _ => .top) (fun _ _ _ h => h) (n5 i hi)))
      have hnew : (w.drew.alloc (.cells cells ti.elem)).heap[w.heap.size]? = some (.cells cells ti.elem (0, 0)) := by rw [drew_alloc_heap]; simp
      have hnsz : (w.drew.alloc (.cells cells ti.elem)).heap.size = w.heap.size + 1 := by rw [drew_alloc_heap]; simp
      have hM : MR (w.drew.alloc (.cells cells ti.elem)) (mvκ E id g w.heap.size) (putμ μ id (.slice (some ⟨w.heap.size, 0, none⟩) (xs.length + ys.length) cap')) (s.H.set id (some (.arr (ver + 1) e (xs ++ ys) m))) 0 := by
        refine MR.step hA.mr (fun c hc => ?_) (fun c hc => ?_) (fun c hc => ?_) (fun c r q h => ?_) hS (hKp _) (hold _ _ _ (fun i c q hi h => ⟨?_, hother c (hA.mr.ltκ c (by simp [h]))⟩) ?_)
        · have := hA.mr.ltS c hc
          simp only [mvκ, if_neg (show c ≠ w.heap.size by omega), hA.mr.apart c hc, Option.map_none, ite_self]
        · have := hA.mr.ltS c hc
          rw [hnsz]; omega
        · simp only [mvκ] at hc
          split at hc
          · rw [hnsz]; omega
          · split at hc
            · simp at hc
            · have := hA.mr.ltκ c (by intro e; rw [e] at hc; simp at hc)
              rw [hnsz]; omega
        · simp only [mvκ] at h
          split at h
          · simp only [Option.some.injEq, Prod.mk.injEq] at h
            exact .inl ⟨id, h.1.symm, by simpa using hidlt⟩
          · split at h
            · simp at h
            · simp only [Option.map_eq_some_iff, Prod.mk.injEq] at h
              obtain ⟨⟨r', q'⟩, h1, h2, h3⟩ := h
              have := hA.mr.roots c r' q' h1
              simp only at h2
              rw [← h2]
              simpa using this
        · simp only [mvκ, if_neg (hsize c (by simp [h])), if_neg (q2 i c q hi h), h, Option.map_some, Root.id.injEq, if_neg hi]
        · refine ⟨hm, _, rfl, .inr ⟨hm, .inr ⟨w.heap.size, cap', cells, ti.elem, by simp [putμ], by simpa using hcap, hnew, hcs, by simp [mvκ], ?_⟩⟩⟩
          have hce : ∀ j, cellAt (w.drew.alloc (.cells cells ti.elem)) w.heap.size j = cells[j]? := fun j => by simp only [cellAt, World.cell?, hnew, Option.isSome_none, Bool.false_eq_true, if_false]
          intro i hi
          simpa only [hce] using hrows i hi
      refine k _ _ (hA.put hdn hM ⟨rfl, rfl, rfl, by rw [hnsz]; omega, fun c hc hn => hother c hc, fun c hc => hc, fun c hc => .inl hc, fun c hc => ?_⟩ hS (hKp _) (hAR _ _ _ rfl)).rel
      simp only [mvκ] at hc
      split at hc
      · exact .inr (by omega)
      · split at hc
        · simp at hc
        · exact .inl (fun e => by rw [e] at hc; simp at hc)

/-- Rows are written over the middle of rows. -/
theorem app_pre {a : Act} (hT : TabOk P T) (hA : At n w0 E0 s a w E μ) {o : Oper} {c : Call} {x y : Operand} {t : TypeId} {d : Nat} (ho : o.op = .call c) (hcal : c.callee = .builtin .append) (hargs : c.args = #[x, y]) (hts : c.argTypes = #[t, t])
    (hg : o.guard = none) (hd : o.dst = some d) (hdn : d < n) {ti : TI} {e : Ty} (he : elemTy T t = some (ti, e)) {ys xs : List e.den} {id ver i : Nat} {m : Md} (hH : s.H[id]? = some (some (.arr ver e xs m))) (hx : HdR e.lv xs.length (μ id) (some (0, i)) (a.eval x)) (hfl : m.nest = .fz ∨ e.flat = true)
    (hy : Src w E e ys (a.eval y)) (hl : i + ys.length ≤ xs.length) (hlim : xs.length ≤ lim e)
    (k : VO P n w0 E0 ops Q rest ⟨(d, .lf (.hd id ver (some (0, i + ys.length)))) :: s.sl, s.H.set id (some (.arr ver e (xs.take i ++ ys ++ xs.drop (i + ys.length)) m))⟩) :
    wpList P ops (fun e a' w' => ∃ s', SRel n w0 E0 s' a' w' ∧ Q e s') (o :: rest) a w := by
  obtain ⟨f1, ej, f2, f3⟩ := elemTy_under hT he
  obtain ⟨info, g1, g2, g3, _, g5, g6⟩ := (hT _ _ f2).info
  rw [f3] at g2 g3 g6
  obtain ⟨z, hz, hz'⟩ := Option.map_eq_some_iff.1 g3
  have hpos := lv_pos e
  have hzs : z.cells.size = e.lv := by rw [← Array.length_toList, hz', zeros_length]
  have hlim0 : lim e ≤ 140737488355328 := Nat.div_le_self _ _
  have hfit : (i + ys.length) * info.bytes ≤ 140737488355328 := by
    have a2 : lim e * (24 * e.lv) ≤ 140737488355328 := Nat.div_mul_le_self _ _
    have a3 : (i + ys.length) * info.bytes ≤ lim e * (24 * e.lv) := Nat.mul_le_mul (by omega) (by omega)
    omega
  obtain ⟨ad, cc, news, n1, n2, n3, n4, n5⟩ := hy
  have hidlt : id < s.H.length := (List.getElem?_eq_some_iff.1 hH).1
  obtain ⟨hm, hrow⟩ := hA.mr.arr hH
  obtain ⟨base, sCap, q1, q2, q3, q4, a', q5, q6, q7⟩ := hx
  simp only [Nat.sub_zero] at q5
  have q7 := q7 rfl
  subst q7
  have hlen : (xs.take i ++ ys ++ xs.drop (i + ys.length)).length = xs.length := by simp; omega
  have hAR : ∀ (w' : World) (E' : Env) (y : Value), y = .slice a' (i + ys.length) sCap → AR w' E' μ (s.H.set id (some (.arr ver e (xs.take i ++ ys ++ xs.drop (i + ys.length)) m))) (.lf (.hd id ver (some (0, i + ys.length)))) y := by
    intro w' E' y h1
    subst h1
    simp only [AR, LR, List.getElem?_set_self hidlt, Nat.le_refl, true_and, HdR, hlen]
    exact ⟨rfl, fun _ => ⟨a', sCap, q1, q2, by omega, q4, a', rfl, fun h => by cases a' <;> simp [Addr.add], fun _ => rfl⟩⟩
  have hKp : Kp (μ id) (μ id) (some (.arr ver e xs m)) (some (.arr ver e (xs.take i ++ ys ++ xs.drop (i + ys.length)) m)) := .inr ⟨rfl, rfl, hlen, rfl⟩
  have hmul : xs.length * e.lv ≤ sCap * e.lv := Nat.mul_le_mul_right _ q2
  -- the block
  rcases hrow with ⟨rfl, ad0, h0⟩ | ⟨g, c', cur, ty, h1, h2, h3, h4, h5, h6⟩
  · -- no rows at all
    simp only [List.length_nil, Nat.le_zero, Nat.add_eq_zero_iff] at hl
    obtain ⟨hi0, hy0⟩ := hl
    subst hi0
    have hys : ys = [] := List.length_eq_zero_iff.1 hy0
    subst hys
    rw [h0] at q1
    simp only [Value.slice.injEq] at q1
    obtain ⟨rfl, _, rfl⟩ := q1
    obtain ⟨y', w', hrun, hcase⟩ := append_run (P := P) (w := w) (ty := 0) (ti := ti) f1 g1 hz g2 hzs hpos o.type (base := ad0) (sLen := 0) (sCap := 0) (olds := []) (by simp) (by simp)
      (.inl ⟨rfl, rfl⟩) (ad := ad) (m := 0) (c := cc) (news := news) (by simpa using n2) (fun h => by omega) n4 (by simp) (by omega)
    have hcase' : y' = .slice ad0 0 0 ∧ w' = w := by
      rcases hcase with ⟨_, r1, r2⟩ | ⟨r, _⟩ | ⟨r, _⟩
      · exact ⟨r1, r2⟩
      · omega
      · omega
    obtain ⟨rfl, rfl⟩ := hcase'
    refine wpList_value (y := .slice ad0 0 0) (w' := w') hg ?_ ?_
    · simp only [execOp, ho, resolve, hcal, hargs, hts, Sem.run_bind, Sem.run_pure, Result.andThen_ok, invoke, builtin]
      simp only [List.map_toArray, List.map_cons, List.map_nil, q5, n1, List.length_nil, hrun, Result.andThen_ok]
    · rw [hd]
      have hset : s.H.set id (some (.arr ver e (([] : List e.den).take 0 ++ [] ++ ([] : List e.den).drop (0 + ([] : List e.den).length)) m)) = s.H := by
        apply List.ext_getElem?
        intro j
        by_cases hj : id = j
        · subst hj; rw [List.getElem?_set_self hidlt, hH]; simp
        · rw [List.getElem?_set_ne hj]
      have h7 := hAR w' E _ rfl
      rw [hset] at h7 k
      exact k _ _ (hA.put hdn hA.mr (Ext.refl w' E) (fun b hb => ⟨hb, rfl⟩) (KpH.refl μ s.H) h7).rel
  · rw [h1] at q1
    simp only [Value.slice.injEq] at q1
    obtain ⟨rfl, _, rfl⟩ := q1
    have hil : i * e.lv ≤ xs.length * e.lv := Nat.mul_le_mul_right _ (by omega)
    have hcell : ∀ q, q < c' * e.lv → cellAt w g q = cur.toList[q]? := by
      intro q hq
      simp only [cellAt, World.cell?, h3, Option.isSome_none, Bool.false_eq_true, if_false]
      rw [Array.getElem?_toList]
    have holen : (cur.toList.take (i * e.lv)).length = i * e.lv := by simp; omega
    obtain ⟨y', w', hrun, hcase⟩ := append_run (P := P) (w := w) (ty := ty) (ti := ti) f1 g1 hz g2 hzs hpos o.type (base := some ⟨g, 0, none⟩) (sLen := i) (sCap := c') (olds := cur.toList.take (i * e.lv)) holen (by omega)
      (.inr ⟨g, cur, rfl, h3, h4, fun j v hv => by
        rw [add_at, Nat.zero_add]
        have hj := (List.getElem?_eq_some_iff.1 hv).1
        rw [holen] at hj
        rw [List.getElem?_take, if_pos hj] at hv
        exact (hcell j (by omega)).trans hv⟩) (ad := ad) (m := ys.length) (c := cc) (news := news) n2
      (fun h => n3 (by intro e; subst e; simp at h)) n4 (by simpa using hfit) (by omega)
    refine wpList_value (y := y') (w' := w') hg ?_ ?_
    · simp only [execOp, ho, resolve, hcal, hargs, hts, Sem.run_bind, Sem.run_pure, Result.andThen_ok, invoke, builtin]
      simp only [List.map_toArray, List.map_cons, List.map_nil, q5, n1, hrun, Result.andThen_ok]
    · rw [hd]
      rcases hcase with ⟨h0, hy', hw'⟩ | ⟨hm0, g', cur', hbg, hcur, hcs, hroom, hy', hw'⟩ | ⟨hbad, _⟩
      · have hys : ys = [] := List.length_eq_zero_iff.1 h0
        subst hys
        rw [hy', hw']
        have hset : s.H.set id (some (.arr ver e (xs.take i ++ [] ++ xs.drop (i + ([] : List e.den).length)) m)) = s.H := by
          apply List.ext_getElem?
          intro j
          by_cases hj : id = j
          · subst hj; rw [List.getElem?_set_self hidlt, hH]; simp
          · rw [List.getElem?_set_ne hj]
        have h7 := hAR w E _ rfl
        rw [hset] at h7 k
        exact k _ _ (hA.put hdn hA.mr (Ext.refl w E) (fun b hb => ⟨hb, rfl⟩) (KpH.refl μ s.H) h7).rel
      · simp only [Option.some.injEq, Addr.mk.injEq, and_true] at hbg
        subst hbg
        rw [h3] at hcur
        simp only [Option.some.injEq, Obj.cells.injEq, and_true] at hcur
        subst hcur
        rw [hy', hw']
        generalize hnew : (cur.toList.take (i * e.lv) ++ news ++ cur.toList.drop (i * e.lv + news.length)).toArray = arr'
        have hmul2 : (i + ys.length) * e.lv ≤ c' * e.lv := Nat.mul_le_mul_right _ (by omega)
        rw [Nat.add_mul] at hmul2
        have hother := fun c (hc : c ≠ g) => setRow_other w g c arr' hc
        have hthis := setRow_this w g cur arr' ty _ h3
        have hS : ∀ c, E.S c → E.S c ∧ (w.setRow g arr').heap[c]? = w.heap[c]? := fun c hc => ⟨hc, hother c (fun e => by subst e; have := hA.mr.apart c hc; rw [h5] at this; simp at this)⟩
        have hsz : arr'.size = c' * e.lv := by
          rw [← hnew]
          simp only [List.size_toArray, List.length_append, List.length_take, List.length_drop, Array.length_toList]
          omega
        have hget : ∀ q, cellAt (w.setRow g arr') g q = (cur.toList.take (i * e.lv) ++ news ++ cur.toList.drop (i * e.lv + news.length))[q]? := by
          intro q
          simp only [cellAt, World.cell?, hthis, Option.isSome_none, Bool.false_eq_true, if_false]
          rw [← hnew, List.getElem?_toArray]
        have hin : ∀ (t : Ty) (z : t.den) (mm : Md) (p : Nat → Nat) (f f' : Nat → Option Value), (∀ j v, j < t.lv → f j = some v → f' j = some v) → Rep w E (.id id) t z mm (fun j => .inside g (p j)) f → Rep (w.setRow g arr') E (.id id) t z mm (fun j => .inside g (p j)) f' := by
          intro t z mm p f f' hff hr
          refine Rep.move (fun q => ∃ b k, q = Pos.inside b k) (fun q => q) hS (fun c q hq hc => ?_) t z mm _ _ f f' (fun _ => ⟨fun q => ⟨_, _, rfl⟩, fun _ => rfl⟩) hff hr
          obtain ⟨b1, k1, rfl⟩ := hq
          refine ⟨hc, hother c (fun e => ?_), fun k => ⟨⟨_, _, rfl⟩, rfl⟩⟩
          subst e
          rw [h5] at hc
          simp at hc
        have hrows : ∀ j (hj : j < (xs.take i ++ ys ++ xs.drop (i + ys.length)).length), Rep (w.setRow g arr') E (.id id) e (xs.take i ++ ys ++ xs.drop (i + ys.length))[j] m.nest (fun q => .inside g (j * e.lv + q)) (fun q => cellAt (w.setRow g arr') g (j * e.lv + q)) := by
          intro j hj
          rw [hlen] at hj
          have hjm : (j + 1) * e.lv ≤ xs.length * e.lv := Nat.mul_le_mul_right _ hj
          rw [Nat.add_mul, Nat.one_mul] at hjm
          by_cases c1 : j < i
          · have hx : (xs.take i ++ ys ++ xs.drop (i + ys.length))[j]'(by rw [hlen]; exact hj) = xs[j] := by
              rw [List.getElem_append_left (by simp; omega), List.getElem_append_left (by simp; omega)]
              simp
            rw [hx]
            refine hin e _ _ _ _ _ (fun q v hq hv => ?_) (h6 j hj)
            have hle : (j + 1) * e.lv ≤ i * e.lv := Nat.mul_le_mul_right _ c1
            rw [Nat.add_mul, Nat.one_mul] at hle
            rw [hget, List.append_assoc, List.getElem?_append_left (by rw [holen]; omega), List.getElem?_take, if_pos (by omega), ← hcell _ (by omega)]
            exact hv
          · by_cases c2 : j < i + ys.length
            · have hx : (xs.take i ++ ys ++ xs.drop (i + ys.length))[j]'(by rw [hlen]; exact hj) = ys[j - i]'(by omega) := by
                rw [List.getElem_append_left (by simp; omega), List.getElem_append_right (by simp; omega)]
                congr 1
                simp
                omega
              rw [hx]
              refine Rep.nested hfl (Rep.fz hS e _ (r' := .res 0) (p' := fun _ => .top) (fun q v hq hv => ?_) (n5 (j - i) (by omega)))
              have hle : i * e.lv ≤ j * e.lv := Nat.mul_le_mul_right _ (by omega)
              have hle2 : (j + 1) * e.lv ≤ (i + ys.length) * e.lv := Nat.mul_le_mul_right _ (by omega)
              rw [Nat.add_mul, Nat.one_mul, Nat.add_mul] at hle2
              rw [hget, List.getElem?_append_left (by simp only [List.length_append, holen, n2]; omega), List.getElem?_append_right (by rw [holen]; omega), holen]
              rw [Nat.sub_mul] at hv
              rw [show j * e.lv + q - i * e.lv = j * e.lv - i * e.lv + q by omega]
              exact hv
            · have hx : (xs.take i ++ ys ++ xs.drop (i + ys.length))[j]'(by rw [hlen]; exact hj) = xs[j] := by
                rw [List.getElem_append_right (by simp; omega)]
                simp only [List.getElem_drop]
                congr 1
                simp
                omega
              rw [hx]
              refine hin e _ _ _ _ _ (fun q v hq hv => ?_) (h6 j hj)
              have hle : (i + ys.length) * e.lv ≤ j * e.lv := Nat.mul_le_mul_right _ (by omega)
              rw [Nat.add_mul] at hle
              rw [hget, List.getElem?_append_right (by simp only [List.length_append, holen, n2]; omega), List.getElem?_drop]
              simp only [List.length_append, holen, n2]
              rw [show i * e.lv + ys.length * e.lv + (j * e.lv + q - (i * e.lv + ys.length * e.lv)) = j * e.lv + q by omega, ← hcell _ (by omega)]
              exact hv
        obtain ⟨m1, m2, m3, m4⟩ := MR.wrote hA.mr (w' := w.setRow g arr') hH h5 h3 hKp hother (by simp) ⟨rfl, rfl, rfl⟩
          (show NB (w.setRow g arr') E μ (s.H.set id (some (.arr ver e (xs.take i ++ ys ++ xs.drop (i + ys.length)) m))) id (.arr ver e (xs.take i ++ ys ++ xs.drop (i + ys.length)) m) from
            ⟨hm, _, rfl, .inr ⟨hm, .inr ⟨g, c', arr', ty, by rw [h1, hlen], by rw [hlen]; exact h2, hthis, hsz, h5, hrows⟩⟩⟩)
        exact k _ _ (hA.put hdn m1 m2 m3 m4 (hAR _ _ _ rfl)).rel
      · omega

theorem VO.app {o : Oper} {d : Nat} {φ : Prop} {v : AV} {H' : Heap} (hT : TabOk P T) (h : evApp T n s o = some (d, φ, v, H')) (hφ : φ) (k : VO P n w0 E0 ops Q rest ⟨(d, v) :: s.sl, H'⟩) : VO P n w0 E0 ops Q (o :: rest) s := by
  intro a w hs
  obtain ⟨E, μ, hA⟩ := hs.at
  unfold evApp at h
  split at h
  · rename_i d' args argTypes hg hd ho
    cases hb : Nat.blt d' n with
    | false => rw [hb] at h; simp at h
    | true =>
      rw [hb] at h
      simp only [cond_true] at h
      have hdn : d' < n := by simpa [Nat.blt_eq] using hb
      split at h
      · rename_i x y t t' hargs hts
        cases ht : Nat.beq t t' with
        | false => rw [ht] at h; simp at h
        | true =>
          rw [ht] at h
          have htt : t = t' := Nat.eq_of_beq_eq_true ht
          subst htt
          simp only [cond_true] at h
          split at h
          · rename_i ti e vx vy he hx hy
            split at h
            · rename_i ys hys
              have hsrc := srcRows_run hA.mr hys (hA.opnd hy)
              have ha1 : args = #[x, y] := by rw [← Array.toArray_toList (xs := args), hargs]
              have ha2 : argTypes = #[t, t] := by rw [← Array.toArray_toList (xs := argTypes), hts]
              split at h
              · simp only [Option.some.injEq, Prod.mk.injEq] at h
                obtain ⟨rfl, rfl, rfl, rfl⟩ := h
                have hxx := hA.opnd hx
                exact app_nil hT hA ho rfl ha1 ha2 hg hd hdn he hxx (fun info z g1 hz g2 hz' => hsrc.gen (elemTy_under hT he).1 g1 hz g2 (by rw [← Array.length_toList, hz', zeros_length]) _) hφ k
              · rename_i id ver
                split at h
                · rename_i cur e' xs m hH
                  cases hc : (Nat.beq ver cur && (decide (m = .tp) || e'.flat)) with
                  | false => rw [hc] at h; simp at h
                  | true =>
                    rw [hc] at h
                    simp only [cond_true] at h
                    simp only [Bool.and_eq_true, Bool.or_eq_true, decide_eq_true_eq] at hc
                    obtain ⟨hv, hfl⟩ := hc
                    have hv := Nat.eq_of_beq_eq_true hv
                    subst hv
                    split at h
                    · rename_i zs hz
                      obtain ⟨rfl, rfl⟩ := castL_eq hz
                      simp only [cast_eq, Option.some.injEq, Prod.mk.injEq] at h
                      obtain ⟨rfl, rfl, rfl, rfl⟩ := h
                      have hxx := hA.opnd hx
                      simp only [AR, LR, hH] at hxx
                      have h3 := hxx.2.2 trivial
                      simp only [HdR] at h3
                      refine app_hd hT hA ho rfl ha1 ha2 hg hd hdn he hH h3 ?_ (fun info z g1 hz g2 hz' => hsrc.gen (elemTy_under hT he).1 g1 hz g2 (by rw [← Array.length_toList, hz', zeros_length]) _) hφ k
                      rcases hfl with rfl | hf
                      · exact .inl rfl
                      · exact .inr hf
                    · simp at h
                · simp at h
              · rename_i id ver i
                split at h
                · rename_i cur e' xs m hH
                  cases hc : (Nat.beq ver cur && (decide (m = .tp) || e'.flat)) with
                  | false => rw [hc] at h; simp at h
                  | true =>
                    rw [hc] at h
                    simp only [cond_true] at h
                    simp only [Bool.and_eq_true, Bool.or_eq_true, decide_eq_true_eq] at hc
                    obtain ⟨hv, hfl⟩ := hc
                    have hv := Nat.eq_of_beq_eq_true hv
                    subst hv
                    split at h
                    · rename_i zs hz
                      obtain ⟨rfl, rfl⟩ := castL_eq hz
                      simp only [cast_eq, Option.some.injEq, Prod.mk.injEq] at h
                      obtain ⟨rfl, rfl, rfl, rfl⟩ := h
                      have hxx := hA.opnd hx
                      simp only [AR, LR, hH] at hxx
                      have h3 := hxx.2.2 trivial
                      refine app_pre hT hA ho rfl ha1 ha2 hg hd hdn he hH h3 ?_ hsrc hφ.1 hφ.2 k
                      rcases hfl with rfl | hf
                      · exact .inl rfl
                      · exact .inr hf
                    · simp at h
                · simp at h
              · simp at h
            · simp at h
          · simp at h
      · simp at h
  · simp at h
end
end Go.Proofs.Ytgpddckjpokclaa.Vc
