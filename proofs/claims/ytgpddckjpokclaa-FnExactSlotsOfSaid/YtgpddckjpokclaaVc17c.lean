/- A calculus of values over the model, part 17c: rows are set to zero; the head of rows is taken for the whole. It speaks of any program. -/
import Derived.Test.YtgpddckjpokclaaVc17b
namespace Go.Proofs.Ytgpddckjpokclaa.Vc
open Go Go.RowKit Go.Lib
set_option linter.unusedVariables false
set_option linter.unusedSimpArgs false

/-- Rows of ours are set to zero. -/
def evClr (T : Tab) (s : St) (o : Oper) : Option Heap :=
  match o.guard, o.dst, o.op with
  | none, none, .call { callee := .builtin .clear, args, argTypes } => match args.toList, argTypes.toList with
    | [x], [t] => match elemTy T t, opnd s.sl x with
      | some (_, e), some (.lf (.hd id ver (some (q, l)))) => match s.H[id]? with
        | some (some (.arr cur e' xs m)) => cond (Nat.beq ver cur && decide (e' = e)) (some (s.H.set id (some (.arr cur e' (xs.take q ++ List.replicate l e'.dflt ++ xs.drop (q + l)) m)))) none
        | _ => none
      | _, _ => none
    | _, _ => none
  | _, _, _ => none

/-- A slot holds the head of rows of ours: from now on this head is all of them. -/
def evShr (s : St) (d : Nat) : Option St := match look s.sl d with
  | some (.lf (.hd id ver (some (0, l)))) => match s.H[id]? with
    | some (some (.arr cur e xs m)) => cond (Nat.beq ver cur) (some ⟨(d, .lf (.hd id (ver + 1) none)) :: s.sl, s.H.set id (some (.arr (ver + 1) e (xs.take l) m))⟩) none
    | _ => none
  | _ => none

/-- .. where a variable's cell holds it. -/
def evShrB (s : St) (b j : Nat) : Option St := match s.H[b]? with
  | some (some (.box ls t)) => match ls[j]? with
    | some (.hd id ver (some (0, l))) => match s.H[id]? with
      | some (some (.arr cur e xs m)) => cond (Nat.beq ver cur) (some ⟨s.sl, (s.H.set id (some (.arr (ver + 1) e (xs.take l) m))).set b (some (.box (ls.set j (.hd id (ver + 1) none)) t))⟩) none
      | _ => none
    | _ => none
  | _ => none

section
variable {P : Program} {T : Tab} {n : Nat} {w0 : World} {E0 : Env0} {s s' s'' : St} {ops : Array Oper} {Q : Exit → St → Prop} {rest : List Oper}
variable {w w' : World} {E E' : Env} {μ μ' : Nat → Value} {H H' : Heap}

/-- Rows are written over the middle of rows. -/
theorem over_rows (hM : MR w E μ H 0) {id ver i : Nat} {e : Ty} {xs ys : List e.den} {m : Md} (hH : H[id]? = some (some (.arr ver e xs m))) {g c' : Nat} {cur : Array Value} {ty : TypeId} (h1 : μ id = .slice (some ⟨g, 0, none⟩) xs.length c') (h2 : xs.length ≤ c')
    (h3 : w.heap[g]? = some (.cells cur ty (0, 0))) (h4 : cur.size = c' * e.lv) (h5 : E.κ g = some (.id id, .top)) (h6 : ∀ i (h : i < xs.length), Rep w E (.id id) e xs[i] m.nest (fun j => .inside g (i * e.lv + j)) (fun j => cellAt w g (i * e.lv + j)))
    {news : List Value} (n2 : news.length = ys.length * e.lv) (hl : i + ys.length ≤ xs.length)
    (hn : ∀ (w' : World) j (hj : j < ys.length) p, (∀ c, E.S c → E.S c ∧ w'.heap[c]? = w.heap[c]?) → Rep w' E (.id id) e ys[j] m.nest p (fun q => news[j * e.lv + q]?)) :
    MR (w.setRow g (cur.toList.take (i * e.lv) ++ news ++ cur.toList.drop (i * e.lv + news.length)).toArray) E μ (H.set id (some (.arr ver e (xs.take i ++ ys ++ xs.drop (i + ys.length)) m))) 0 ∧
    Ext w E (w.setRow g (cur.toList.take (i * e.lv) ++ news ++ cur.toList.drop (i * e.lv + news.length)).toArray) E ∧
    (∀ c, E.S c → E.S c ∧ (w.setRow g (cur.toList.take (i * e.lv) ++ news ++ cur.toList.drop (i * e.lv + news.length)).toArray).heap[c]? = w.heap[c]?) ∧ KpH μ μ H (H.set id (some (.arr ver e (xs.take i ++ ys ++ xs.drop (i + ys.length)) m))) := by
  obtain ⟨hm, _⟩ := hM.arr hH
  have hpos := lv_pos e
  have hlen : (xs.take i ++ ys ++ xs.drop (i + ys.length)).length = xs.length := by simp; omega
  have hKp : Kp (μ id) (μ id) (some (.arr ver e xs m)) (some (.arr ver e (xs.take i ++ ys ++ xs.drop (i + ys.length)) m)) := .inr ⟨rfl, rfl, hlen, rfl⟩
  have hmul : xs.length * e.lv ≤ c' * e.lv := Nat.mul_le_mul_right _ h2
  have hil : i * e.lv ≤ xs.length * e.lv := Nat.mul_le_mul_right _ (by omega)
  have hcell : ∀ q, q < c' * e.lv → cellAt w g q = cur.toList[q]? := by
    intro q hq
    simp only [cellAt, World.cell?, h3, Option.isSome_none, Bool.false_eq_true, if_false]
    rw [Array.getElem?_toList]
  have holen : (cur.toList.take (i * e.lv)).length = i * e.lv := by simp; omega
  generalize hnew : (cur.toList.take (i * e.lv) ++ news ++ cur.toList.drop (i * e.lv + news.length)).toArray = arr'
  have hmul2 : (i + ys.length) * e.lv ≤ c' * e.lv := Nat.mul_le_mul_right _ (by omega)
  rw [Nat.add_mul] at hmul2
  have hother := fun c (hc : c ≠ g) => setRow_other w g c arr' hc
  have hthis := setRow_this w g cur arr' ty _ h3
  have hS : ∀ c, E.S c → E.S c ∧ (w.setRow g arr').heap[c]? = w.heap[c]? := fun c hc => ⟨hc, hother c (fun e => by subst e; have := hM.apart c hc; rw [h5] at this; simp at this)⟩
  have hsz : arr'.size = c' * e.lv := by
    rw [← hnew]
    simp only [List.size_toArray, List.length_append, List.length_take, List.length_drop, Array.length_toList]
    omega
  have hget : ∀ q, cellAt (w.setRow g arr') g q = (cur.toList.take (i * e.lv) ++ news ++ cur.toList.drop (i * e.lv + news.length))[q]? := by
    intro q
    simp only [cellAt, World.cell?, hthis, Option.isSome_none, Bool.false_eq_true, if_false]
    rw [← hnew, List.getElem?_toArray]
  have hin : ∀ (t : Ty) (z : t.den) (mm : Md) (p : Nat → Nat) (f f' : Nat → Option Value), (∀ j v, j < t.lv → f j = some v → f' j = some v) → Rep w E (.id id) t z mm (fun j => .inside g (p j)) f → Rep (w.setRow g arr') E (.id id) t z mm (fun j => .inside g (p j)) f' := by
    intro t z mm p f f' hff hr
    refine Rep.move (fun q => ∃ b k, q = Pos.inside b k) (fun q => q) hS (fun c q hq hc => ?_) t z mm _ _ f f' (fun _ => ⟨fun q => ⟨_, _, rfl⟩, fun _ => rfl⟩) hff hr
    obtain ⟨b1, k1, rfl⟩ := hq
    refine ⟨hc, hother c (fun e => ?_), fun k => ⟨⟨_, _, rfl⟩, rfl⟩⟩
    subst e
    rw [h5] at hc
    simp at hc
  have hrows : ∀ j (hj : j < (xs.take i ++ ys ++ xs.drop (i + ys.length)).length), Rep (w.setRow g arr') E (.id id) e (xs.take i ++ ys ++ xs.drop (i + ys.length))[j] m.nest (fun q => .inside g (j * e.lv + q)) (fun q => cellAt (w.setRow g arr') g (j * e.lv + q)) := by
    intro j hj
    rw [hlen] at hj
    have hjm : (j + 1) * e.lv ≤ xs.length * e.lv := Nat.mul_le_mul_right _ hj
    rw [Nat.add_mul, Nat.one_mul] at hjm
    by_cases c1 : j < i
    · have hx : (xs.take i ++ ys ++ xs.drop (i + ys.length))[j]'(by rw [hlen]; exact hj) = xs[j] := by
        rw [List.getElem_append_left (by simp; omega), List.getElem_append_left (by simp; omega)]
        simp
      rw [hx]
      refine hin e _ _ _ _ _ (fun q v hq hv => ?_) (h6 j hj)
      have hle : (j + 1) * e.lv ≤ i * e.lv := Nat.mul_le_mul_right _ c1
      rw [Nat.add_mul, Nat.one_mul] at hle
      rw [hget, List.append_assoc, List.getElem?_append_left (by rw [holen]; omega), List.getElem?_take, if_pos (by omega), ← hcell _ (by omega)]
      exact hv
    · by_cases c2 : j < i + ys.length
      · have hx : (xs.take i ++ ys ++ xs.drop (i + ys.length))[j]'(by rw [hlen]; exact hj) = ys[j - i]'(by omega) := by
          rw [List.getElem_append_left (by simp; omega), List.getElem_append_right (by simp; omega)]
          congr 1
          simp
          omega
        rw [hx]
        have hle : i * e.lv ≤ j * e.lv := Nat.mul_le_mul_right _ (by omega)
        have hle2 : (j + 1) * e.lv ≤ (i + ys.length) * e.lv := Nat.mul_le_mul_right _ (by omega)
        rw [Nat.add_mul, Nat.one_mul, Nat.add_mul] at hle2
        refine Rep.move (E := E) (E' := E) (fun _ => True) (fun q => q) (fun b hb => ⟨hb, rfl⟩) (fun b q _ hq => ⟨hq, rfl, fun k => ⟨trivial, rfl⟩⟩) e _ m.nest _ _ _ _ (fun _ => ⟨fun _ => trivial, fun _ => rfl⟩) (fun q v hq hv => ?_) (hn (w.setRow g arr') (j - i) (by omega) _ hS)
        rw [hget, List.getElem?_append_left (by simp only [List.length_append, holen, n2]; omega), List.getElem?_append_right (by rw [holen]; omega), holen]
        rw [Nat.sub_mul] at hv
        rw [show j * e.lv + q - i * e.lv = j * e.lv - i * e.lv + q by omega]
        exact hv
      · have hx : (xs.take i ++ ys ++ xs.drop (i + ys.length))[j]'(by rw [hlen]; exact hj) = xs[j] := by
          rw [List.getElem_append_right (by simp; omega)]
          simp only [List.getElem_drop]
          congr 1
          simp
          omega
        rw [hx]
        refine hin e _ _ _ _ _ (fun q v hq hv => ?_) (h6 j hj)
        have hle : (i + ys.length) * e.lv ≤ j * e.lv := Nat.mul_le_mul_right _ (by omega)
        rw [Nat.add_mul] at hle
        rw [hget, List.getElem?_append_right (by simp only [List.length_append, holen, n2]; omega), List.getElem?_drop]
        simp only [List.length_append, holen, n2]
        rw [show i * e.lv + ys.length * e.lv + (j * e.lv + q - (i * e.lv + ys.length * e.lv)) = j * e.lv + q by omega, ← hcell _ (by omega)]
        exact hv
  exact MR.wrote hM (w' := w.setRow g arr') hH h5 h3 hKp hother (by simp) ⟨rfl, rfl, rfl⟩
    (show NB (w.setRow g arr') E μ (H.set id (some (.arr ver e (xs.take i ++ ys ++ xs.drop (i + ys.length)) m))) id (.arr ver e (xs.take i ++ ys ++ xs.drop (i + ys.length)) m) from
      ⟨hm, _, rfl, .inr ⟨hm, .inr ⟨g, c', arr', ty, by rw [h1, hlen], by rw [hlen]; exact h2, hthis, hsz, h5, hrows⟩⟩⟩)

theorem zeroCells_at {e : Ty} {z : Value} (hz : z.cells.toList = e.zeros) {l i j : Nat} (hi : i < l) (hj : j < e.lv) : (Builtin.zeroCells z.cells l).toList[i * e.lv + j]? = e.zeros[j]? := by
  have hzs : z.cells.size = e.lv := by rw [← Array.length_toList, hz, zeros_length]
  have hlt : i * e.lv + j < l * e.lv := by
    have : (i + 1) * e.lv ≤ l * e.lv := Nat.mul_le_mul_right _ hi
    rw [Nat.add_mul, Nat.one_mul] at this
    omega
  have hmod : (i * e.lv + j) % e.lv = j := by rw [Nat.mul_comm, Nat.mul_add_mod, Nat.mod_eq_of_lt hj]
  simp only [Array.getElem?_toList, Builtin.zeroCells, Array.getElem?_map, Array.getElem?_range, hzs, hlt, if_true, Option.map_some, hmod]
  rw [← hz, getElem!_pos z.cells j (by omega), Array.getElem?_toList, Array.getElem?_eq_getElem (by omega)]

theorem zeros_one : ∀ (e : Ty), ∀ v ∈ e.zeros, v.oneCell' = true
  | .int _, v, h => by simp [Ty.zeros] at h; subst h; rfl
  | .bool, v, h => by simp [Ty.zeros] at h; subst h; rfl
  | .str, v, h => by simp [Ty.zeros] at h; subst h; rfl
  | .sl _, v, h => by simp [Ty.zeros] at h; subst h; rfl
  | .pair a b, v, h => by
    simp only [Ty.zeros, List.mem_append] at h
    rcases h with h | h
    · exact zeros_one a v h
    · exact zeros_one b v h

theorem VO.clr {o : Oper} {H' : Heap} (hT : TabOk P T) (h : evClr T s o = some H') (k : VO P n w0 E0 ops Q rest ⟨s.sl, H'⟩) : VO P n w0 E0 ops Q (o :: rest) s := by
  intro a w hs
  obtain ⟨E, μ, hA⟩ := hs.at
  unfold evClr at h
  split at h
  · rename_i args argTypes hg hd ho
    split at h
    · rename_i x t hargs hts
      split at h
      · rename_i ti e id ver q l he hx
        split at h
        · rename_i cur e' xs m hH
          cases hc : (Nat.beq ver cur && decide (e' = e)) with
          | false => rw [hc] at h; simp at h
          | true =>
            rw [hc] at h
            simp only [cond_true, Option.some.injEq] at h
            subst h
            simp only [Bool.and_eq_true, decide_eq_true_eq] at hc
            obtain ⟨hv, rfl⟩ := hc
            have hv := Nat.eq_of_beq_eq_true hv
            subst hv
            have ha1 : args = #[x] := by rw [← Array.toArray_toList (xs := args), hargs]
            have ha2 : argTypes = #[t] := by rw [← Array.toArray_toList (xs := argTypes), hts]
            have hxx := hA.opnd hx
            simp only [AR, LR, hH] at hxx
            obtain ⟨base, sCap, q1, q2, q3, q4, a', q5, q6, q7⟩ := hxx.2.2 trivial
            obtain ⟨f1, ej, f2, f3⟩ := elemTy_under hT he
            obtain ⟨info, g1, g2, g3, _, g5, g6⟩ := (hT _ _ f2).info
            rw [f3] at g2 g3 g6
            obtain ⟨z, hz, hz'⟩ := Option.map_eq_some_iff.1 g3
            have hpos := lv_pos e'
            have hzs : z.cells.size = e'.lv := by rw [← Array.length_toList, hz', zeros_length]
            have hidlt : id < s.H.length := (List.getElem?_eq_some_iff.1 hH).1
            by_cases hl0 : l = 0
            · subst hl0
              have hrun : (Builtin.clear_ #[t] o.type #[.slice a' 0 (sCap - q)]).run P w = .ok (.tuple #[]) w := by
                unfold Builtin.clear_
                cases a' <;> simp [run_underlying f1]
              refine wpList_value (y := .tuple #[]) (w' := w) hg ?_ ?_
              · simp only [execOp, ho, resolve, ha1, ha2, Sem.run_bind, Sem.run_pure, Result.andThen_ok, invoke, builtin]
                simp only [List.map_toArray, List.map_cons, List.map_nil, q5, hrun, Result.andThen_ok]
              · rw [hd]
                have hset : s.H.set id (some (.arr ver e' (xs.take q ++ List.replicate 0 e'.dflt ++ xs.drop (q + 0)) m)) = s.H := by
                  apply List.ext_getElem?
                  intro j
                  by_cases hj : id = j
                  · subst hj; rw [List.getElem?_set_self hidlt, hH]; simp
                  · rw [List.getElem?_set_ne hj]
                rw [hset] at k
                exact k _ _ (hA.unput hA.mr (Ext.refl w E) (fun b hb => ⟨hb, rfl⟩) (KpH.refl μ s.H)).rel
            · obtain ⟨hm, hrow⟩ := hA.mr.arr hH
              rcases hrow with ⟨rfl, ad0, h0⟩ | ⟨g, c', cur, ty, h1, h2, h3, h4, h5, h6⟩
              · simp at q3; omega
              · rw [h1] at q1
                simp only [Value.slice.injEq] at q1
                obtain ⟨rfl, _, rfl⟩ := q1
                have q6 := q6 (by omega)
                simp only [Option.map_some, add_at, Nat.zero_add] at q6
                subst q6
                have hzl : (Builtin.zeroCells z.cells l).toList.length = l * e'.lv := by rw [Array.length_toList, size_zeroCells, hzs]
                have hmul : (q + l) * e'.lv ≤ c' * e'.lv := Nat.mul_le_mul_right _ (by omega)
                rw [Nat.add_mul] at hmul
                have hone : ∀ v ∈ (Builtin.zeroCells z.cells l).toList, v.oneCell' = true := by
                  intro v hv
                  obtain ⟨k, hk, rfl⟩ := List.getElem_of_mem hv
                  have hk' : k < l * e'.lv := by rw [← hzl]; exact hk
                  have e1 : k = (k / e'.lv) * e'.lv + k % e'.lv := by rw [Nat.mul_comm]; exact (Nat.div_add_mod k e'.lv).symm
                  have e2 := zeroCells_at hz' (l := l) (i := k / e'.lv) (j := k % e'.lv) (Nat.div_lt_of_lt_mul (by rw [Nat.mul_comm]; exact hk')) (Nat.mod_lt _ hpos)
                  rw [← e1, List.getElem?_eq_getElem hk] at e2
                  exact zeros_one e' _ (List.mem_of_getElem? e2.symm)
                have hst := run_storeCells_at P g (q * e'.lv) ty (Builtin.zeroCells z.cells l).toList 0 cur w h3 (by rw [hzl]; omega) hone
                simp only [Nat.add_zero] at hst
                have hrun : (Builtin.clear_ #[t] o.type #[.slice (some ⟨g, q * e'.lv, none⟩) l (c' - q)]).run P w = .ok (.tuple #[]) (w.setRow g (cur.toList.take (q * e'.lv) ++ (Builtin.zeroCells z.cells l).toList ++ cur.toList.drop (q * e'.lv + (Builtin.zeroCells z.cells l).toList.length)).toArray) := by
                  unfold Builtin.clear_
                  cases l with
                  | zero => omega
                  | succ l => simp [run_underlying f1, zeroValue, typeInfo, g1, hz, hst]
                refine wpList_value (y := .tuple #[]) (w' := w.setRow g (cur.toList.take (q * e'.lv) ++ (Builtin.zeroCells z.cells l).toList ++ cur.toList.drop (q * e'.lv + (Builtin.zeroCells z.cells l).toList.length)).toArray) hg ?_ ?_
                rotate_left
                · rw [hd]
                  obtain ⟨m1, m2, m3, m4⟩ := over_rows hA.mr hH (ys := List.replicate l e'.dflt) (i := q) h1 h2 h3 h4 h5 h6 (news := (Builtin.zeroCells z.cells l).toList) (by rw [hzl]; simp) (by simp; omega)
                    (fun w' j hj p _ => by
                      simp only [List.getElem_replicate]
                      simp only [List.length_replicate] at hj
                      refine rep_zeros e' _ _ (fun i v hv => ?_)
                      have hi : i < e'.lv := by rw [← zeros_length e']; exact (List.getElem?_eq_some_iff.1 hv).1
                      rw [zeroCells_at hz' hj hi]
                      exact hv)
                  simp only [List.length_replicate] at m1 m2 m3 m4
                  exact k _ _ (hA.unput m1 m2 m3 m4).rel
                · simp only [execOp, ho, resolve, ha1, ha2, Sem.run_bind, Sem.run_pure, Result.andThen_ok, invoke, builtin]
                  simp only [List.map_toArray, List.map_cons, List.map_nil, q5, hrun, Result.andThen_ok]
        · simp at h
      · simp at h
    · simp at h
  · simp at h

/-- The head of rows of ours, taken for the whole. -/
theorem shr_mr (hM : MR w E μ H 0) {id ver l : Nat} {e : Ty} {xs : List e.den} {m : Md} (hH : H[id]? = some (some (.arr ver e xs m))) {y : Value} (hy : HdR e.lv xs.length (μ id) (some (0, l)) y) :
    MR w E (putμ μ id y) (H.set id (some (.arr (ver + 1) e (xs.take l) m))) 0 ∧ KpH μ (putμ μ id y) H (H.set id (some (.arr (ver + 1) e (xs.take l) m))) := by
  have hidlt : id < H.length := (List.getElem?_eq_some_iff.1 hH).1
  have hS : ∀ b, E.S b → E.S b ∧ w.heap[b]? = w.heap[b]? := fun b hb => ⟨hb, rfl⟩
  have hK : KpH μ (putμ μ id y) H (H.set id (some (.arr (ver + 1) e (xs.take l) m))) := KpH.setAt hH (.inl (Nat.lt_succ_self _))
  refine ⟨MR.step hM hM.apart hM.ltS hM.ltκ (fun b r q h => by simpa using hM.roots b r q h) hS hK (fun i blk hi => ?_), hK⟩
  by_cases hid : i = id
  · subst hid
    rw [List.getElem?_set_self hidlt] at hi
    simp only [Option.some.injEq] at hi
    subst hi
    refine .inr ?_
    obtain ⟨hm, hrow⟩ := hM.arr hH
    obtain ⟨base, sCap, q1, q2, q3, q4, a', q5, q6, q7⟩ := hy
    have q7 := q7 rfl
    subst q7
    simp only [Nat.sub_zero, Nat.zero_add] at q5 q3
    have hlen : (xs.take l).length = l := by simp; omega
    refine ⟨hm, y, by simp [at0, putμ], .inr ⟨hm, ?_⟩⟩
    rcases hrow with ⟨rfl, ad0, h0⟩ | ⟨g, c', cur, ty, h1, h2, h3, h4, h5, h6⟩
    · rw [h0] at q1
      simp only [Value.slice.injEq] at q1
      obtain ⟨rfl, _, rfl⟩ := q1
      simp at q3
      subst q3
      exact .inl ⟨by simp, _, q5⟩
    · rw [h1] at q1
      simp only [Value.slice.injEq] at q1
      obtain ⟨rfl, _, rfl⟩ := q1
      refine .inr ⟨g, c', cur, ty, by rw [q5, hlen], by omega, h3, h4, h5, fun j hj => ?_⟩
      have hj' : j < xs.length := by omega
      have hx : (xs.take l)[j] = xs[j] := by simp
      rw [hx]
      exact h6 j hj'
  · rw [List.getElem?_set_ne (Ne.symm hid)] at hi
    exact .inl ⟨hi, by simp [putμ, hid], fun b q hq => ⟨hq, rfl⟩⟩

theorem Gh.shr (d : Nat) (h : evShr s d = some s') : Gh n w0 E0 s s' := by
  intro a w hs
  obtain ⟨E, μ, hA⟩ := hs.at
  unfold evShr at h
  split at h
  · rename_i id ver l hl
    split at h
    · rename_i cur e xs m hH
      cases hv : Nat.beq ver cur with
      | false => rw [hv] at h; simp at h
      | true =>
        rw [hv] at h
        simp only [cond_true, Option.some.injEq] at h
        subst h
        have hv := Nat.eq_of_beq_eq_true hv
        subst hv
        obtain ⟨y, h1, h2⟩ := hA.slots d _ hl
        simp only [AR, LR, hH] at h2
        have h3 := h2.2.2 trivial
        obtain ⟨m1, m2⟩ := shr_mr hA.mr hH h3
        have hidlt : id < s.H.length := (List.getElem?_eq_some_iff.1 hH).1
        refine ⟨hA.size, hA.defers, hA.apart, E, _, m1, hA.ext, fun k u hu => ?_⟩
        rw [look_put] at hu
        split at hu
        · rename_i e
          subst e
          simp only [Option.some.injEq] at hu
          subst hu
          refine ⟨y, h1, ?_⟩
          simp only [AR, LR, List.getElem?_set_self hidlt, Nat.le_refl, true_and, HdR]
          exact ⟨h2.1, fun _ => by simp [putμ]⟩
        · obtain ⟨z, h4, h5⟩ := hA.slots k u hu
          exact ⟨z, h4, AR.keep (fun b hb => ⟨hb, rfl⟩) m2 _ _ h5⟩
    · simp at h
  · simp at h

theorem Gh.shrB (b j : Nat) (h : evShrB s b j = some s') : Gh n w0 E0 s s' := by
  intro a w hs
  obtain ⟨E, μ, hA⟩ := hs.at
  unfold evShrB at h
  split at h
  · rename_i ls t hb
    split at h
    · rename_i id ver l hl
      split at h
      · rename_i cur e xs m hH
        cases hv : Nat.beq ver cur with
        | false => rw [hv] at h; simp at h
        | true =>
          rw [hv] at h
          simp only [cond_true, Option.some.injEq] at h
          subst h
          have hv := Nat.eq_of_beq_eq_true hv
          subst hv
          obtain ⟨g, arr, a1, a2, a3, a4⟩ := hA.mr.blks b _ hb
          obtain ⟨y, b1, b2⟩ := a4.get j _ hl
          have b2' := b2
          simp only [LR, hH] at b2
          have h3 := b2.2.2 trivial
          obtain ⟨m1, m2⟩ := shr_mr hA.mr hH h3
          have hidlt : id < s.H.length := (List.getElem?_eq_some_iff.1 hH).1
          have hbi : b ≠ id := fun e => by subst e; rw [hb] at hH; simp at hH
          have hblt : b < s.H.length := (List.getElem?_eq_some_iff.1 hb).1
          have hS : ∀ b, E.S b → E.S b ∧ w.heap[b]? = w.heap[b]? := fun b hb => ⟨hb, rfl⟩
          have hb' : (s.H.set id (some (.arr (ver + 1) e (xs.take l) m)))[b]? = some (some (.box ls t)) := by rw [List.getElem?_set_ne (Ne.symm hbi)]; exact hb
          have hK2 : KpH (putμ μ id y) (putμ μ id y) (s.H.set id (some (.arr (ver + 1) e (xs.take l) m))) ((s.H.set id (some (.arr (ver + 1) e (xs.take l) m))).set b (some (.box (ls.set j (.hd id (ver + 1) none)) t))) := KpH.set hb' rfl
          have hnew : ((s.H.set id (some (.arr (ver + 1) e (xs.take l) m))).set b (some (.box (ls.set j (.hd id (ver + 1) none)) t)))[id]? = some (some (.arr (ver + 1) e (xs.take l) m)) := by
            rw [List.getElem?_set_ne hbi, List.getElem?_set_self hidlt]
          have hM2 : MR w E (putμ μ id y) ((s.H.set id (some (.arr (ver + 1) e (xs.take l) m))).set b (some (.box (ls.set j (.hd id (ver + 1) none)) t))) 0 := by
            refine MR.step m1 m1.apart m1.ltS m1.ltκ (fun b r q h => by simpa using m1.roots b r q h) hS hK2 (fun i blk hi => ?_)
            by_cases hid : i = b
            · subst hid
              rw [List.getElem?_set_self (by simpa using hblt)] at hi
              simp only [Option.some.injEq] at hi
              subst hi
              obtain ⟨g', arr', c1, c2, c3, c4⟩ := m1.blks i _ hb'
              refine .inr ⟨g', arr', c1, c2, c3, All2.set (c4.imp (LR.keep hS hK2)) (fun z hz => ?_)⟩
              have hμ : putμ μ id y i = μ i := by simp [putμ, hbi]
              rw [hμ, a1] at c1
              simp only [Value.pointer.injEq, Option.some.injEq, Addr.mk.injEq, and_true] at c1
              subst c1
              rw [a3] at c3
              simp only [Option.some.injEq, Obj.cells.injEq, and_true] at c3
              obtain ⟨rfl, _⟩ := c3
              rw [b1] at hz
              simp only [Option.some.injEq] at hz
              subst hz
              simp only [LR, hnew, HdR, Nat.le_refl, true_and]
              exact ⟨b2.1, fun _ => by simp [putμ]⟩
            · rw [List.getElem?_set_ne (Ne.symm hid)] at hi
              exact .inl ⟨hi, rfl, fun b q hq => ⟨hq, rfl⟩⟩
          refine ⟨hA.size, hA.defers, hA.apart, E, _, hM2, hA.ext, fun k u hu => ?_⟩
          obtain ⟨z, h4, h5⟩ := hA.slots k u hu
          exact ⟨z, h4, AR.keep hS hK2 _ _ (AR.keep hS m2 _ _ h5)⟩
      · simp at h
    · simp at h
  · simp at h
end
end Go.Proofs.Ytgpddckjpokclaa.Vc
