/- A calculus of values over the model, part 33: rows of ours move over to other rows of ours. It speaks of any program. -/
import Derived.Test.YtgpddckjpokclaaVc32
namespace Go.Proofs.Ytgpddckjpokclaa.Vc
open Go Go.RowKit
set_option linter.unusedVariables false
set_option linter.unusedSimpArgs false

def evAppM (T : Tab) (n : Nat) (s : St) (o : Oper) : Option (Nat × Prop × AV × Heap) :=
  match o.guard, o.dst, o.op with
  | none, some d, .call { callee := .builtin .append, args, argTypes } => cond (Nat.blt d n) (match args.toList, argTypes.toList with
    | [x, y], [t, t'] => cond (Nat.beq t t') (match elemTy T t, opnd s.sl x, opnd s.sl y with
      | some (_, e), some (.lf (.hd id ver none)), some (.lf (.hd l vl none)) => match s.H[id]?, s.H[l]? with
        | some (some (.arr cur e1 xs m1)), some (some (.arr cl e2 ys m2)) => cond (Nat.beq ver cur && Nat.beq vl cl && !Nat.beq id l && decide (m1 = .dp) && decide (m2 = .dp)) (match castL e1 e xs, castL e2 e ys with
          | some xs', some (y :: ys') => some (d, (xs'.length + (y :: ys').length ≤ lim e), .lf (.hd id (ver + 1) none), (s.H.set l none).set id (some (.arr (ver + 1) e (xs' ++ y :: ys') .dp)))
          | _, _ => none) none
        | _, _ => none
      | _, _, _ => none) none
    | _, _ => none) none
  | _, _, _ => none

def mgPos (gl b off : Nat) : Pos → Pos
  | .inside g k => if g = gl then .inside b (off + k) else .inside g k
  | .top => .top

/-- Rows of block l (gl) are rows of id now, from cell off of block b on. -/
def mgE (E : Env) (id l gl b off : Nat) : Env := ⟨E.S, fun c => match E.κ c with
  | some (.id k, q) => if k = l then (match q with
    | .top => none
    | .inside g k' => some (.id id, mgPos gl b off (.inside g k'))) else some (.id k, q)
  | o => o⟩

section
variable {P : Program} {T : Tab} {n : Nat} {w0 : World} {E0 : Env0} {s s' s'' : St} {ops : Array Oper} {Q : Exit → St → Prop} {rest : List Oper}
variable {w w' : World} {E E' : Env} {μ μ' : Nat → Value} {H H' : Heap}

theorem mgE_none {id l gl b off c : Nat} (h : E.κ c = none) : (mgE E id l gl b off).κ c = none := by simp only [mgE, h]
theorem mgE_other {id l gl b off c k : Nat} {q : Pos} (h : E.κ c = some (.id k, q)) (hk : k ≠ l) : (mgE E id l gl b off).κ c = some (.id k, q) := by simp only [mgE, h, if_neg hk]
theorem mgE_in {id l gl b off c g k : Nat} (h : E.κ c = some (.id l, .inside g k)) : (mgE E id l gl b off).κ c = some (.id id, mgPos gl b off (.inside g k)) := by simp only [mgE, h, if_true]

theorem mgE_roots {id l gl b off c : Nat} {N : Nat} (hr : ∀ b r q, E.κ b = some (r, q) → (∃ n, r = .id n ∧ n < N) ∨ ∃ n, r = .res n ∧ n < 0) (hid : id < N) {r : Root} {q : Pos} (h : (mgE E id l gl b off).κ c = some (r, q)) : (∃ n, r = .id n ∧ n < N) ∨ ∃ n, r = .res n ∧ n < 0 := by
  simp only [mgE] at h
  split at h
  · rename_i k q0 hk
    split at h
    · split at h
      · simp at h
      · simp only [Option.some.injEq, Prod.mk.injEq] at h
        exact .inl ⟨id, h.1.symm, hid⟩
    · simp only [Option.some.injEq, Prod.mk.injEq] at h
      rw [← h.1]
      exact hr c _ _ hk
  · exact hr c r q h

/-- The rows that come, at their new place. -/
theorem Rep.merged {id l gl b off : Nat} (hE' : ∀ c g k, E.κ c = some (.id l, .inside g k) → E'.κ c = some (.id id, mgPos gl b off (.inside g k)) ∧ w'.heap[c]? = w.heap[c]?) (hgl : ∀ q, E.κ gl = some (.id l, q) → q = .top)
    (hS : ∀ c, E.S c → E'.S c ∧ w'.heap[c]? = w.heap[c]?) {t : Ty} {x : t.den} {m : Md} {q q' : Nat} {f : Nat → Option Value} (hq : ∀ j, off + (q + j) = q' + j) (h : Rep w E (.id l) t x m (fun j => .inside gl (q + j)) f) :
    Rep w' E' (.id id) t x m (fun j => .inside b (q' + j)) f := by
  refine Rep.move (fun p => ∃ b k, p = Pos.inside b k) (mgPos gl b off) hS (fun c p hp hc => ?_) t x m _ _ f f (fun _ => ⟨fun j => ⟨_, _, rfl⟩, fun j => by simp [mgPos, hq]⟩) (fun _ _ _ h => h) h
  obtain ⟨b1, k1, rfl⟩ := hp
  have hcg : c ≠ gl := by
    intro e
    subst e
    have := hgl _ hc
    simp at this
  exact ⟨(hE' c b1 k1 hc).1, (hE' c b1 k1 hc).2, fun k => ⟨⟨_, _, rfl⟩, by simp [mgPos, hcg]⟩⟩

theorem app_mv {a : Act} (hT : TabOk P T) (hA : At n w0 E0 s a w E μ) {o : Oper} {c : Call} {x y : Operand} {t : TypeId} {d : Nat} (ho : o.op = .call c) (hcal : c.callee = .builtin .append) (hargs : c.args = #[x, y]) (hts : c.argTypes = #[t, t])
    (hg : o.guard = none) (hd : o.dst = some d) (hdn : d < n) {ti : TI} {e : Ty} (he : elemTy T t = some (ti, e)) {ys xs : List e.den} {id ver l vl : Nat} (hH : s.H[id]? = some (some (.arr ver e xs .dp))) (hL : s.H[l]? = some (some (.arr vl e ys .dp))) (hne : id ≠ l) (hys : ys ≠ [])
    (hx : a.eval x = μ id) (hy : a.eval y = μ l) (hl : xs.length + ys.length ≤ lim e)
    (k : VO P n w0 E0 ops Q rest ⟨(d, .lf (.hd id (ver + 1) none)) :: s.sl, (s.H.set l none).set id (some (.arr (ver + 1) e (xs ++ ys) .dp))⟩) :
    wpList P ops (fun e a' w' => ∃ s', SRel n w0 E0 s' a' w' ∧ Q e s') (o :: rest) a w := by
  obtain ⟨f1, ej, f2, f3⟩ := elemTy_under hT he
  obtain ⟨info, g1, g2, g3, _, g5, g6⟩ := (hT _ _ f2).info
  rw [f3] at g2 g3 g6
  obtain ⟨z, hz, hz'⟩ := Option.map_eq_some_iff.1 g3
  have hpos := lv_pos e
  have hzs : z.cells.size = e.lv := by rw [← Array.length_toList, hz', zeros_length]
  have hlim0 : lim e ≤ 140737488355328 := Nat.div_le_self _ _
  have hfit : (xs.length + ys.length) * info.bytes ≤ 140737488355328 := by
    have a2 : lim e * (24 * e.lv) ≤ 140737488355328 := Nat.div_mul_le_self _ _
    have a3 : (xs.length + ys.length) * info.bytes ≤ lim e * (24 * e.lv) := Nat.mul_le_mul hl (by omega)
    omega
  have hidlt : id < s.H.length := (List.getElem?_eq_some_iff.1 hH).1
  have hllt : l < s.H.length := (List.getElem?_eq_some_iff.1 hL).1
  -- what comes
  obtain ⟨_, hrl⟩ := hA.mr.arr hL
  rcases hrl with ⟨h0, _⟩ | ⟨gl, cl, arl, tyl, i1, i2, i3, i4, i5, i6⟩
  · exact absurd h0 hys
  obtain ⟨news, n2, n3, n4, n5⟩ := src_cells (w := w) (E := E) (e := e) (b := gl) (o := 0) (len := ys.length) (ys := ys) (m := .dp) (r := .id l) (p := fun i j => .inside gl (i * e.lv + j)) rfl (fun i hi => by
    have h := i6 i hi
    simp only [Md.nest, Nat.zero_add] at h ⊢
    exact h)
  have hmpos : 0 < ys.length := List.length_pos_iff.2 hys
  obtain ⟨hm, hrow⟩ := hA.mr.arr hH
  -- the row as it stands
  obtain ⟨base, sCap, olds, ty, b1, b2, b3, b4⟩ : ∃ (base : Option Addr) (sCap : Nat) (olds : List Value) (ty : TypeId), μ id = .slice base xs.length sCap ∧ xs.length ≤ sCap ∧ olds.length = xs.length * e.lv ∧
      ((sCap = 0 ∧ olds = [] ∧ xs = []) ∨ ∃ g cur, base = some ⟨g, 0, none⟩ ∧ w.heap[g]? = some (.cells cur ty (0, 0)) ∧ cur.size = sCap * e.lv ∧ (∀ (j : Nat) v, olds[j]? = some v → w.cell? ((⟨g, 0, none⟩ : Addr).add j) = some v) ∧
        E.κ g = some (.id id, .top) ∧ (∀ i (h : i < xs.length), Rep w E (.id id) e xs[i] .dp (fun j => .inside g (i * e.lv + j)) (fun j => olds[i * e.lv + j]?)) ∧ olds = cur.toList.take (xs.length * e.lv)) := by
    rcases hrow with ⟨rfl, ad0, h0⟩ | ⟨g, c', arr, ty, h1, h2, h3, h4, h5, h6⟩
    · exact ⟨ad0, 0, [], 0, by simpa using h0, by simp, by simp, .inl ⟨rfl, rfl, rfl⟩⟩
    · have hmul : xs.length * e.lv ≤ c' * e.lv := Nat.mul_le_mul_right _ h2
      have hlen : (arr.toList.take (xs.length * e.lv)).length = xs.length * e.lv := by simp; omega
      have hcell : ∀ q, q < xs.length * e.lv → cellAt w g q = (arr.toList.take (xs.length * e.lv))[q]? := by
        intro q hq
        simp only [cellAt, World.cell?, h3, Option.isSome_none, Bool.false_eq_true, if_false]
        rw [List.getElem?_take, if_pos hq, Array.getElem?_toList]
      refine ⟨some ⟨g, 0, none⟩, c', arr.toList.take (xs.length * e.lv), ty, h1, h2, hlen, .inr ⟨g, arr, rfl, h3, h4, ?_, h5, ?_, rfl⟩⟩
      · intro j v hv
        rw [add_at, Nat.zero_add]
        have hj := (List.getElem?_eq_some_iff.1 hv).1
        rw [hlen] at hj
        exact (hcell j hj).trans hv
      · intro i hi
        refine Rep.move (fun _ => True) (fun q => q) (fun c hc => ⟨hc, rfl⟩) (fun c q _ hq => ⟨hq, rfl, fun k => ⟨trivial, rfl⟩⟩) e _ .dp _ _ _ _ (fun _ => ⟨fun _ => trivial, fun _ => rfl⟩) (fun j v hj hv => ?_) (h6 i hi)
        rw [← hcell]
        · exact hv
        · have : (i + 1) * e.lv ≤ xs.length * e.lv := Nat.mul_le_mul_right _ hi
          rw [Nat.add_mul, Nat.one_mul] at this
          omega
  obtain ⟨y', w', hrun, hcase⟩ := append_run (P := P) (w := w) (ty := ty) (ti := ti) f1 g1 hz g2 hzs hpos o.type (base := base) (sLen := xs.length) (sCap := sCap) (olds := olds) b3 b2
    (b4.imp (fun h => ⟨h.1, h.2.1⟩) (fun ⟨g, cur, h1, h2, h3, h4, _⟩ => ⟨g, cur, h1, h2, h3, h4⟩)) (ad := some ⟨gl, 0, none⟩) (m := ys.length) (c := cl) (news := news) n2
    (fun h => ⟨_, rfl, n3⟩) n4 (by simpa using hfit) (by omega)
  refine wpList_value (y := y') (w' := w') hg ?_ ?_
  · simp only [execOp, ho, resolve, hcal, hargs, hts, Sem.run_bind, Sem.run_pure, Result.andThen_ok, invoke, builtin]
    simp only [List.map_toArray, List.map_cons, List.map_nil, hx, hy, b1, i1, hrun, Result.andThen_ok]
  · rw [hd]
    let H2 : Heap := (s.H.set l none).set id (some (.arr (ver + 1) e (xs ++ ys) .dp))
    have hH2 : H2.length = s.H.length := by simp [H2]
    have hat : ∀ q, q ≠ id → q ≠ l → H2[q]? = s.H[q]? := fun q h1 h2 => by simp only [H2]; rw [List.getElem?_set_ne (Ne.symm h1), List.getElem?_set_ne (Ne.symm h2)]
    have hatl : H2[l]? = some none := by simp only [H2]; rw [List.getElem?_set_ne hne, List.getElem?_set_self hllt]
    have hati : H2[id]? = some (some (.arr (ver + 1) e (xs ++ ys) .dp)) := by simp only [H2]; rw [List.getElem?_set_self (by simpa using hidlt)]
    have hKp : ∀ y : Value, KpH μ (putμ μ id y) s.H H2 := by
      intro y q c hc
      by_cases h1 : q = id
      · subst h1
        rw [hH] at hc
        simp only [Option.some.injEq] at hc
        subst hc
        exact ⟨_, hati, .inl (Nat.lt_succ_self _)⟩
      · by_cases h2 : q = l
        · subst h2
          exact ⟨none, hatl, trivial⟩
        · exact ⟨c, by rw [hat q h1 h2]; exact hc, by rw [show putμ μ id y q = μ q by simp [putμ, h1]]; exact Kp.refl _ _⟩
    have hAR : ∀ (w' : World) (E' : Env) (y : Value), y.oneCell' = true → AR w' E' (putμ μ id y) H2 (.lf (.hd id (ver + 1) none)) y := by
      intro w' E' y h1
      simp [AR, LR, putμ, HdR, h1, hati]
    have hold : ∀ (w' : World) (E' : Env) (y : Value), (∀ (i : Nat) b q, i ≠ id → i ≠ l → E.κ b = some (.id i, q) → E'.κ b = some (.id i, q) ∧ w'.heap[b]? = w.heap[b]?) → NB w' E' (putμ μ id y) H2 id (.arr (ver + 1) e (xs ++ ys) .dp) →
        ∀ (i : Nat) blk, H2[i]? = some (some blk) → (s.H[i]? = some (some blk) ∧ (putμ μ id y) i = μ i ∧ ∀ b q, E.κ b = some (.id i, q) → E'.κ b = some (.id i, q) ∧ w'.heap[b]? = w.heap[b]?) ∨ NB w' E' (putμ μ id y) H2 i blk := by
      intro w' E' y h1 h2 i blk hi
      by_cases hid : i = id
      · subst hid
        rw [hati] at hi
        simp only [Option.some.injEq] at hi
        subst hi
        exact .inr h2
      · by_cases hil : i = l
        · subst hil
          rw [hatl] at hi
          simp at hi
        · rw [hat i hid hil] at hi
          exact .inl ⟨hi, by simp [putμ, hid], fun b q => h1 i b q hid hil⟩
    have hgl : ∀ q, E.κ gl = some (.id l, q) → q = .top := fun q hq => by rw [i5] at hq; simp at hq; exact hq.symm
    have hoff : ∀ i j : Nat, xs.length * e.lv + (i * e.lv + j) = (xs.length + i) * e.lv + j := fun i j => by rw [Nat.add_mul]; omega
    rcases hcase with ⟨h0, _, _⟩ | ⟨hm0, g, cur, hbg, hcur, hcs, hroom, hy', hw'⟩ | ⟨_, cap', cells, hcap, hy', hw', hcs, tail, htail⟩
    · omega
    · rcases b4 with ⟨z1, z2, z3⟩ | ⟨g', cur', p1, p2, p3, p4, p5, p6, p7⟩
      · omega
      · rw [hbg] at p1
        simp only [Option.some.injEq, Addr.mk.injEq, and_true] at p1
        subst p1
        rw [hcur] at p2
        simp only [Option.some.injEq, Obj.cells.injEq, and_true] at p2
        subst p2
        rw [hy', hw']
        generalize hnew : (cur.toList.take (xs.length * e.lv) ++ news ++ cur.toList.drop (xs.length * e.lv + news.length)).toArray = arr'
        have hmul : (xs.length + ys.length) * e.lv ≤ sCap * e.lv := Nat.mul_le_mul_right _ hroom
        rw [Nat.add_mul] at hmul
        have hother := fun c (hc : c ≠ g) => setRow_other w g c arr' hc
        have hthis := setRow_this w g cur arr' ty _ hcur
        have hng : ∀ c k q, E.κ c = some (.id k, q) → (k ≠ id ∨ q ≠ .top) → c ≠ g := by
          intro c k q hc hkq e
          subst e
          rw [p5] at hc
          simp only [Option.some.injEq, Prod.mk.injEq, Root.id.injEq] at hc
          rcases hkq with h | h
          · exact h hc.1.symm
          · exact h hc.2.symm
        have hS : ∀ c, E.S c → (mgE E id l gl g (xs.length * e.lv)).S c ∧ (w.setRow g arr').heap[c]? = w.heap[c]? := fun c hc => ⟨hc, hother c (fun e => by subst e; have := hA.mr.apart c hc; rw [p5] at this; simp at this)⟩
        have hcell : ∀ (j : Nat) v, (olds ++ news)[j]? = some v → cellAt (w.setRow g arr') g j = some v := by
          intro j v hv
          have hj := (List.getElem?_eq_some_iff.1 hv).1
          simp only [cellAt, World.cell?, hthis, Option.isSome_none, Bool.false_eq_true, if_false]
          rw [← hnew, List.getElem?_toArray, List.getElem?_append_left (by rw [← p7]; exact hj), ← p7]
          exact hv
        have hrows := rows_append (w := w.setRow g arr') (E := mgE E id l gl g (xs.length * e.lv)) (r := .id id) (m := .dp) (p := fun i j => .inside g (i * e.lv + j)) (xs := xs) (ys := ys) (olds := olds) (news := news) (get := cellAt (w.setRow g arr') g) b3 n2 hcell
          (fun i hi => by
            refine Rep.move (E := E) (E' := mgE E id l gl g (xs.length * e.lv)) (fun q => ∃ b k, q = Pos.inside b k) (fun q => q) hS (fun c q hq hc => ?_) e _ .dp _ _ _ _ (fun _ => ⟨fun q => ⟨_, _, rfl⟩, fun _ => rfl⟩) (fun _ _ _ h => h) (p6 i hi)
            obtain ⟨b1, k1, rfl⟩ := hq
            exact ⟨mgE_other hc hne, hother c (hng c _ _ hc (.inr (by simp))), fun k => ⟨⟨_, _, rfl⟩, rfl⟩⟩)
          (fun i hi => Rep.merged (E := E) (E' := mgE E id l gl g (xs.length * e.lv)) (fun c g' k' hc => ⟨mgE_in hc, hother c (hng c _ _ hc (.inl (Ne.symm hne)))⟩) hgl hS (hoff i) (n5 i hi))
        have hM : MR (w.setRow g arr') (mgE E id l gl g (xs.length * e.lv)) (putμ μ id (.slice base (xs.length + ys.length) sCap)) H2 0 := by
          refine MR.step hA.mr (fun c hc => mgE_none (hA.mr.apart c hc)) (fun c hc => by simpa using hA.mr.ltS c hc) (fun c hc => by simpa using hA.mr.ltκ c (fun h => hc (mgE_none h))) (fun b r q h => by rw [hH2]; exact mgE_roots hA.mr.roots hidlt h) hS (hKp _) (hold _ _ _ (fun i b q hi hil h => ⟨mgE_other h hil, hother b (hng b _ _ h (.inl hi))⟩) ?_)
          refine ⟨by simp, _, rfl, .inr ⟨by simp, .inr ⟨g, sCap, arr', ty, by simp [putμ, hbg], by simpa using hroom, hthis, ?_, mgE_other p5 hne, hrows⟩⟩⟩
          rw [← hnew]
          simp only [List.size_toArray, List.length_append, List.length_take, List.length_drop, Array.length_toList]
          omega
        refine k _ _ (hA.put hdn hM ⟨rfl, rfl, rfl, by simp, fun c hc hn => hother c (fun e => by subst e; rw [p5] at hn; simp at hn), fun c hc => hc, fun c hc => .inl hc, fun c hc => .inl (fun h => hc (mgE_none h))⟩ hS (hKp _) (hAR _ _ _ rfl)).rel
    · rw [hy', hw']
      have hsize : ∀ c, E.κ c ≠ none → c ≠ w.heap.size := fun c h e => by have := hA.mr.ltκ c h; omega
      -- the block the row leaves, or the new one itself
      obtain ⟨g, q1, q2, q3⟩ : ∃ g, (∀ q, E.κ g = some (.id id, q) → q = .top) ∧ (∀ i b q, i ≠ id → E.κ b = some (.id i, q) → b ≠ g) ∧
          ∀ (w' : World), (∀ c, E.S c → (mvκ E id g w.heap.size).S c ∧ w'.heap[c]? = w.heap[c]?) → (∀ c, E.κ c ≠ none → c ≠ g → w'.heap[c]? = w.heap[c]?) → ∀ i (h : i < xs.length), Rep w' (mvκ E id g w.heap.size) (.id id) e xs[i] .dp (fun j => .inside w.heap.size (i * e.lv + j)) (fun j => olds[i * e.lv + j]?) := by
        rcases b4 with ⟨z1, z2, z3⟩ | ⟨g, cur, p1, p2, p3, p4, p5, p6, p7⟩
        · subst z3
          refine ⟨w.heap.size, fun q hq => absurd rfl (hsize _ (by simp [hq])), fun i b q _ h => hsize b (by simp [h]), fun w' _ _ i hi => by simp at hi⟩
        · refine ⟨g, fun q hq => by rw [p5] at hq; simp at hq; exact hq.symm, fun i b q hi h e => ?_, fun w' hS hh i hi => ?_⟩
          · subst e
            rw [p5] at h
            simp only [Option.some.injEq, Prod.mk.injEq, Root.id.injEq] at h
            exact hi h.1.symm
          · refine Rep.moved hS (fun q hq => by rw [p5] at hq; simp at hq; exact hq.symm) ?_ hh e _ .dp (i * e.lv) _ _ (fun _ _ _ h => h) (p6 i hi)
            cases hk : E.κ w.heap.size with
            | none => rfl
            | some z => exact absurd rfl (hsize _ (by simp [hk]))
      have hother : ∀ c, c < w.heap.size → (w.drew.alloc (.cells cells ti.elem)).heap[c]? = w.heap[c]? := fun c hc => alloc_old w.drew _ hc
      let E' : Env := mgE (mvκ E id g w.heap.size) id l gl w.heap.size (xs.length * e.lv)
      have hS0 : ∀ c, E.S c → (mvκ E id g w.heap.size).S c ∧ (w.drew.alloc (.cells cells ti.elem)).heap[c]? = w.heap[c]? := fun c hc => ⟨hc, hother c (hA.mr.ltS c hc)⟩
      have hS : ∀ c, E.S c → E'.S c ∧ (w.drew.alloc (.cells cells ti.elem)).heap[c]? = w.heap[c]? := fun c hc => ⟨hc, hother c (hA.mr.ltS c hc)⟩
      -- the labels behind
      have hmvo : ∀ c i q, i ≠ id → E.κ c = some (.id i, q) → (mvκ E id g w.heap.size).κ c = some (.id i, q) := fun c i q hi h => by
        simp only [mvκ, if_neg (hsize c (by simp [h])), if_neg (q2 i c q hi h), h, Option.map_some, Root.id.injEq, if_neg hi]
      have hmvr : ∀ c r q, (mvκ E id g w.heap.size).κ c = some (r, q) → (∃ n, r = .id n ∧ n < s.H.length) ∨ ∃ n, r = .res n ∧ n < 0 := by
        intro c r q h
        simp only [mvκ] at h
        split at h
        · simp only [Option.some.injEq, Prod.mk.injEq] at h
          exact .inl ⟨id, h.1.symm, hidlt⟩
        · split at h
          · simp at h
          · simp only [Option.map_eq_some_iff, Prod.mk.injEq] at h
            obtain ⟨⟨r', q'⟩, h1, h2, h3⟩ := h
            have := hA.mr.roots c r' q' h1
            simp only at h2
            rw [← h2]
            exact this
      have hmvn : ∀ c, c ≠ w.heap.size → E.κ c = none → (mvκ E id g w.heap.size).κ c = none := fun c hc h => by
        simp only [mvκ, if_neg hc, h, Option.map_none, ite_self]
      have hrows := rows_append (w := w.drew.alloc (.cells cells ti.elem)) (E := E') (r := .id id) (m := .dp) (p := fun i j => .inside w.heap.size (i * e.lv + j)) (xs := xs) (ys := ys) (olds := olds) (news := news) (get := fun j => cells[j]?) b3 n2
        (fun j v hv => by
          have hj := (List.getElem?_eq_some_iff.1 hv).1
          rw [← Array.getElem?_toList, htail, List.getElem?_append_left hj]
          exact hv)
        (fun i hi => Rep.move (E := mvκ E id g w.heap.size) (E' := E') (fun _ => True) (fun q => q) (fun c hc => ⟨hc, rfl⟩) (fun c q _ hc => ⟨mgE_other hc hne, rfl, fun k => ⟨trivial, rfl⟩⟩) e _ .dp _ _ _ _ (fun _ => ⟨fun _ => trivial, fun _ => rfl⟩) (fun _ _ _ h => h)
          (q3 _ hS0 (fun c hc _ => hother c (hA.mr.ltκ c hc)) i hi))
        (fun i hi => Rep.merged (E := E) (E' := E') (fun c g' k' hc => ⟨mgE_in (hmvo c l _ (Ne.symm hne) hc), hother c (hA.mr.ltκ c (by simp [hc]))⟩) hgl hS (hoff i) (n5 i hi))
      have hnew : (w.drew.alloc (.cells cells ti.elem)).heap[w.heap.size]? = some (.cells cells ti.elem (0, 0)) := by rw [drew_alloc_heap]; simp
      have hnsz : (w.drew.alloc (.cells cells ti.elem)).heap.size = w.heap.size + 1 := by rw [drew_alloc_heap]; simp
      have hM : MR (w.drew.alloc (.cells cells ti.elem)) E' (putμ μ id (.slice (some ⟨w.heap.size, 0, none⟩) (xs.length + ys.length) cap')) H2 0 := by
        refine MR.step hA.mr (fun c hc => ?_) (fun c hc => ?_) (fun c hc => ?_) (fun c r q h => by rw [hH2]; exact mgE_roots hmvr hidlt h) hS (hKp _) (hold _ _ _ (fun i c q hi hil h => ⟨mgE_other (hmvo c i q hi h) hil, hother c (hA.mr.ltκ c (by simp [h]))⟩) ?_)
        · have := hA.mr.ltS c hc
          exact mgE_none (hmvn c (by omega) (hA.mr.apart c hc))
        · have := hA.mr.ltS c hc
          rw [hnsz]; omega
        · by_cases hcn : c = w.heap.size
          · rw [hnsz]; omega
          · by_cases hE : E.κ c = none
            · exact absurd (mgE_none (hmvn c hcn hE)) hc
            · have := hA.mr.ltκ c hE
              rw [hnsz]; omega
        · refine ⟨by simp, _, rfl, .inr ⟨by simp, .inr ⟨w.heap.size, cap', cells, ti.elem, by simp [putμ], by simpa using hcap, hnew, hcs, mgE_other (by simp [mvκ]) hne, ?_⟩⟩⟩
          have hce : ∀ j, cellAt (w.drew.alloc (.cells cells ti.elem)) w.heap.size j = cells[j]? := fun j => by simp only [cellAt, World.cell?, hnew, Option.isSome_none, Bool.false_eq_true, if_false]
          intro i hi
          have h := hrows i hi
          simp only [hce, Md.nest]
          exact h
      refine k _ _ (hA.put hdn hM ⟨rfl, rfl, rfl, by rw [hnsz]; omega, fun c hc hn => hother c hc, fun c hc => hc, fun c hc => .inl hc, fun c hc => ?_⟩ hS (hKp _) (hAR _ _ _ rfl)).rel
      by_cases hcn : c = w.heap.size
      · exact .inr (by omega)
      · exact .inl (fun hE => hc (mgE_none (hmvn c hcn hE)))

theorem VO.appM {o : Oper} {d : Nat} {φ : Prop} {v : AV} {H' : Heap} (hT : TabOk P T) (h : evAppM T n s o = some (d, φ, v, H')) (hφ : φ) (k : VO P n w0 E0 ops Q rest ⟨(d, v) :: s.sl, H'⟩) : VO P n w0 E0 ops Q (o :: rest) s := by
  intro a w hs
  obtain ⟨E, μ, hA⟩ := hs.at
  unfold evAppM at h
  split at h
  · rename_i d' args argTypes hg hd ho
    cases hb : Nat.blt d' n with
    | false => rw [hb] at h; simp at h
    | true =>
      rw [hb] at h
      simp only [cond_true] at h
      have hdn : d' < n := by simpa [Nat.blt_eq] using hb
      split at h
      · rename_i x y t t' hx hy
        cases ht : Nat.beq t t' with
        | false => rw [ht] at h; simp at h
        | true =>
          rw [ht] at h
          have := Nat.eq_of_beq_eq_true ht
          subst this
          simp only [cond_true] at h
          split at h
          · rename_i ti e id ver l vl he hox hoy
            split at h
            · rename_i cur e1 xs m1 cl e2 ys m2 hH hL
              cases hc : (Nat.beq ver cur && Nat.beq vl cl && !Nat.beq id l && decide (m1 = .dp) && decide (m2 = .dp)) with
              | false => rw [hc] at h; simp at h
              | true =>
                rw [hc] at h
                simp only [Bool.and_eq_true, decide_eq_true_eq, Bool.not_eq_true'] at hc
                obtain ⟨⟨⟨⟨hv, hvl⟩, hil⟩, rfl⟩, rfl⟩ := hc
                have hv := Nat.eq_of_beq_eq_true hv
                have hvl := Nat.eq_of_beq_eq_true hvl
                subst hv hvl
                have hne : id ≠ l := fun e => by subst e; simp at hil
                simp only [cond_true] at h
                split at h
                · rename_i xs' y0 ys' hc1 hc2
                  simp only [Option.some.injEq, Prod.mk.injEq] at h
                  obtain ⟨rfl, rfl, rfl, rfl⟩ := h
                  obtain ⟨h1, h2⟩ := castL_eq hc1
                  subst h1
                  obtain ⟨h3, h4⟩ := castL_eq hc2
                  subst h3
                  simp only [cast_eq] at h2 h4
                  subst h2
                  subst h4
                  have e1 := (hA.opnd hox).2
                  rw [hH] at e1
                  have e2 := (hA.opnd hoy).2
                  rw [hL] at e2
                  exact app_mv hT hA ho rfl (by rw [← hx]) (by rw [← hy]) hg hd hdn he hH hL hne (by simp) (e1.2 rfl) (e2.2 rfl) hφ k
                · simp at h
            · simp at h
          · simp at h
      · simp at h
  · simp at h
end
end Go.Proofs.Ytgpddckjpokclaa.Vc
