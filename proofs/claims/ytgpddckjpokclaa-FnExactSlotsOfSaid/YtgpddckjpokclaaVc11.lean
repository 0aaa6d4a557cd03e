/- A calculus of values over the model, eleventh part: the steps over a slice literal, make and append. It speaks of any program. -/
import Derived.Test.YtgpddckjpokclaaVc10
namespace Go.Proofs.Ytgpddckjpokclaa.Vc
open Go Go.RowKit
set_option linter.unusedVariables false
set_option linter.unusedSimpArgs false

/-- Operands 0, 1, .. of a literal, each as the cells of its value. -/
def litRows (sl : List (Nat × AV)) : Nat → List (Nat × Operand) → Option (List (List Lf))
  | _, [] => some []
  | i, (j, x) :: r => cond (Nat.beq i j) (match opnd sl x with
    | some v => match cellsOf v, litRows sl (i + 1) r with
      | some c, some l => some (c :: l)
      | _, _ => none
    | none => none) none

def rowsOf (m : Md) (e : Ty) : List (List Lf) → Option (List e.den)
  | [] => some []
  | c :: l => match ofLfs m e c, rowsOf m e l with
    | some (x, []), some r => some (x :: r)
    | _, _ => none

def elemTy (T : Tab) (t : TypeId) : Option (TI × Ty) := match T t with
  | some ti => match ti.ty with
    | .sl e => some (ti, e)
    | _ => none
  | none => none

def evLit (T : Tab) (n : Nat) (s : St) (o : Oper) : Option (Nat × AV × Heap) :=
  match o.guard, o.dst, o.op with
  | none, some d, .buildSlice t len parts => cond (Nat.blt d n) (match elemTy T t with
    | some (_, e) => match litRows s.sl 0 parts.toList with
      | some rows => match rowsOf (mdOf e).nest e rows with
        | some xs => cond (Nat.beq xs.length len && Nat.ble (len * e.lv) 16777216) (some (match xs with
          | [] => (d, .lf .nil, s.H)
          | _ => (d, .lf (.hd s.H.length 0 none), s.H ++ [some (.arr 0 e xs (mdOf e))]))) none
        | none => none
      | none => none
    | none => none) none
  | _, _, _ => none

/-- make, its rows to be ours as m says. -/
def evMake (T : Tab) (n : Nat) (m : Md) (s : St) (o : Oper) : Option (Nat × Prop × AV × Heap) :=
  match o.guard, o.dst, o.op with
  | none, some d, .makeSlice t l c => cond (Nat.blt d n && decide (m ≠ .fz)) (match elemTy T t, opnd s.sl l, opnd s.sl c with
    | some (_, e), some (.lf (.v (.int _) k)), some (.lf (.v (.int _) k')) => some (d, (0 ≤ k ∧ k ≤ (lim e : Int) ∧ k' = k), .lf (.hd s.H.length 0 none), s.H ++ [some (.arr 0 e (List.replicate k.toNat e.dflt) m)])
    | _, _, _ => none) none
  | _, _, _ => none

section
variable {P : Program} {T : Tab} {n : Nat} {w0 : World} {E0 : Env0} {s : St} {ops : Array Oper} {Q : Exit → St → Prop} {rest : List Oper}
variable {w w' : World} {E E' : Env} {μ μ' : Nat → Value} {H H' : Heap}

theorem elemTy_under (hT : TabOk P T) {t : TypeId} {ti : TI} {e : Ty} (h : elemTy T t = some (ti, e)) : P.underlying t = some (.slice ti.elem) ∧ ∃ ej, T ti.elem = some ej ∧ ej.ty = e := by
  unfold elemTy at h
  split at h
  · rename_i ti' hi
    split at h
    · rename_i e' he
      simp only [Option.some.injEq, Prod.mk.injEq] at h
      obtain ⟨rfl, rfl⟩ := h
      exact hT.slice hi he
    · simp at h
  · simp at h

/-- New rows. -/
theorem arr_new {c : Nat} {cells : Array Value} {ty : TypeId} {e : Ty} {xs : List e.den} {m : Md} (hm : m ≠ .fz) (hc : xs.length ≤ c) (hsz : cells.size = c * e.lv)
    (hrep : ∀ i (h : i < xs.length), Rep (w.alloc (.cells cells ty)) (putκ E w.heap.size (.id H.length, .top)) (.id H.length) e xs[i] m.nest (fun j => .inside w.heap.size (i * e.lv + j)) (fun j => cells[i * e.lv + j]?)) (ver : Nat) :
    NB (w.alloc (.cells cells ty)) (putκ E w.heap.size (.id H.length, .top)) (putμ μ H.length (.slice (some ⟨w.heap.size, 0, none⟩) xs.length c)) (H ++ [some (.arr ver e xs m)]) H.length (.arr ver e xs m) := by
  refine ⟨hm, _, rfl, .inr ⟨hm, .inr ⟨w.heap.size, c, cells, ty, by simp [putμ], hc, by simp [alloc_heap], hsz, by simp [putκ], fun i hi => ?_⟩⟩⟩
  have e : (fun j => cellAt (w.alloc (.cells cells ty)) w.heap.size (i * e.lv + j)) = fun j => cells[i * e.lv + j]? := by
    funext j
    simp [cellAt, World.cell?, alloc_heap]
  rw [e]
  exact hrep i hi

theorem hd_new (w' : World) (E' : Env) (y : Value) (hy : y.oneCell' = true) (e : Ty) (xs : List e.den) (m : Md) : AR w' E' (putμ μ H.length y) (H ++ [some (.arr 0 e xs m)]) (.lf (.hd H.length 0 none)) y := by
  simp [AR, LR, putμ, HdR, hy]

theorem rowsOf_rep {m : Md} {e : Ty} : ∀ {rows : List (List Lf)} {xs : List e.den} {vs : List Value}, rowsOf m e rows = some xs → All2 (fun l v => All2 (LR w E μ H) l v.cells.toList) rows vs →
    xs.length = vs.length ∧ (∀ v ∈ vs, v.cells.size = e.lv) ∧ ∀ i (h : i < xs.length), ∃ v, vs[i]? = some v ∧ ∀ (r : Root) (p : Nat → Pos), Rep w E r e xs[i] m p (fun j => v.cells.toList[j]?)
  | [], xs, [], h, .nil => by
    simp only [rowsOf, Option.some.injEq] at h
    subst h
    exact ⟨rfl, by simp, fun i hi => by simp at hi⟩
  | c :: l, xs, v :: vs, h, .cons h1 h2 => by
    simp only [rowsOf] at h
    split at h
    · rename_i x r e1 e2
      simp only [Option.some.injEq] at h
      subst h
      obtain ⟨a1, a2, a3⟩ := rowsOf_rep e2 h2
      have hsz : v.cells.size = e.lv := by
        obtain ⟨_, b2, b3⟩ := ofLfs_rep (r := .res 0) (p := fun _ => .top) e1 h1
        have := b2.length
        simp only [List.length_nil, List.length_drop, Array.length_toList] at this b3
        omega
      refine ⟨by simp [a1], fun u hu => ?_, fun i hi => ?_⟩
      · rcases List.mem_cons.1 hu with rfl | hu
        · exact hsz
        · exact a2 u hu
      · cases i with
        | zero => exact ⟨v, rfl, fun r p => (ofLfs_rep e1 h1).1⟩
        | succ i => exact a3 i (by simpa using hi)
    · simp at h

theorem litRows_run {a : Act} (hA : At n w0 E0 s a w E μ) : ∀ {parts : List (Nat × Operand)} {i : Nat} {rows : List (List Lf)}, litRows s.sl i parts = some rows →
    parts.map (fun x => (x.1, a.eval x.2)) = ((parts.map fun x => a.eval x.2).zipIdx i).map (fun x => (x.2, x.1)) ∧ All2 (fun l v => All2 (LR w E μ s.H) l v.cells.toList) rows (parts.map fun x => a.eval x.2)
  | [], i, rows, h => by
    simp only [litRows, Option.some.injEq] at h
    subst h
    exact ⟨rfl, .nil⟩
  | (j, x) :: r, i, rows, h => by
    simp only [litRows] at h
    cases hb : Nat.beq i j with
    | false => rw [hb] at h; simp at h
    | true =>
      rw [hb] at h
      have hij : i = j := Nat.eq_of_beq_eq_true hb
      subst hij
      simp only [cond_true] at h
      split at h
      · rename_i v hv
        split at h
        · rename_i c l hc hl
          simp only [Option.some.injEq] at h
          subst h
          obtain ⟨a1, a2⟩ := litRows_run hA hl
          exact ⟨by simp [a1], .cons (cellsOf_run hc (hA.opnd hv)) a2⟩
        · simp at h
      · simp at h

theorem VO.lit {o : Oper} {d : Nat} {v : AV} {H' : Heap} (hT : TabOk P T) (h : evLit T n s o = some (d, v, H')) (k : VO P n w0 E0 ops Q rest ⟨(d, v) :: s.sl, H'⟩) : VO P n w0 E0 ops Q (o :: rest) s := by
  intro a w hs
  obtain ⟨E, μ, hA⟩ := hs.at
  unfold evLit at h
  split at h
  · rename_i d' t len parts hg hd ho
    cases hb : Nat.blt d' n with
    | false => rw [hb] at h; simp at h
    | true =>
      rw [hb] at h
      simp only [cond_true] at h
      have hdn : d' < n := by simpa [Nat.blt_eq] using hb
      split at h
      · rename_i ti e he
        split at h
        · rename_i rows hrows
          split at h
          · rename_i xs hxs
            cases hc : (Nat.beq xs.length len && Nat.ble (len * e.lv) 16777216) with
            | false => rw [hc] at h; simp at h
            | true =>
              rw [hc] at h
              simp only [Bool.and_eq_true] at hc
              obtain ⟨hlen, hsm⟩ := hc
              have hlen : xs.length = len := Nat.eq_of_beq_eq_true hlen
              have hsm : len * e.lv ≤ 16777216 := by simpa using hsm
              simp only [cond_true, Option.some.injEq] at h
              obtain ⟨f1, ej, f2, f3⟩ := elemTy_under hT he
              obtain ⟨info, g1, g2, g3, _⟩ := (hT _ _ f2).info
              rw [f3] at g2 g3
              obtain ⟨z, hz, hz'⟩ := Option.map_eq_some_iff.1 g3
              obtain ⟨l1, l2⟩ := litRows_run hA hrows
              obtain ⟨r1, r2, r3⟩ := rowsOf_rep hxs l2
              have hpos := lv_pos e
              generalize hvs : (parts.toList.map fun x => a.eval x.2) = vs at l1 l2 r1 r2 r3
              have hrun : (execOp a.eval o).run P w = .ok (.value (.slice (some ⟨w.heap.size, 0, none⟩) len len)) (w.alloc (.cells (vs.flatMap fun v => v.cells.toList).toArray ti.elem)) := by
                have hparts : (parts.map fun (i, x) => (i, a.eval x)).toList = (vs.zipIdx 0).map fun x => (x.2, x.1) := by
                  rw [Array.toList_map, ← l1]
                by_cases h0 : len = 0
                · have hv0 : vs = [] := List.length_eq_zero_iff.1 (by omega)
                  subst hv0
                  have hp0 : (parts.map fun (i, x) => (i, a.eval x)).toList = [] := by rw [hparts]; rfl
                  have hp1 : (parts.map fun (i, x) => (i, a.eval x)) = #[] := by simpa using hp0
                  have hp2 : parts = #[] := by simpa using hp1
                  subst h0 hp2
                  have e0 : (Array.range 0) = #[] := rfl
                  simp [execOp, ho, Instr.buildSlice, run_underlying f1, run_sizeOf' g1, g2, Instr.fill, newRow, e0]
                · have := run_buildSlice w t ti.elem len (parts.map fun (i, x) => (i, a.eval x)) (vs.flatMap fun v => v.cells.toList).toArray info z f1 g1 hz (by rw [g2]; omega) (by rw [g2]; have := Nat.mul_ne_zero h0 (Nat.ne_of_gt hpos); exact this) (by
                    rw [hparts, g2]
                    refine Great.fill_whole hpos vs _ r2 ?_
                    rw [← r1, hlen]
                    simp)
                  simp only [execOp, ho, Sem.run_bind, this, Result.andThen_ok, Sem.run_pure]
              have hcells : (vs.flatMap fun v => v.cells.toList).toArray.size = len * e.lv := by
                rw [List.size_toArray]
                have : ∀ vs : List Value, (∀ v ∈ vs, v.cells.size = e.lv) → (vs.flatMap fun v => v.cells.toList).length = vs.length * e.lv := by
                  intro vs hv
                  induction vs with
                  | nil => simp
                  | cons v vs ih => rw [List.flatMap_cons, List.length_append, ih (fun u hu => hv u (List.mem_cons_of_mem _ hu)), Array.length_toList, hv v List.mem_cons_self, List.length_cons, Nat.add_mul]; omega
                rw [this vs r2, ← r1, hlen]
              refine wpList_value hg hrun ?_
              rw [hd]
              cases hx : xs with
              | nil =>
                rw [hx] at h
                simp only [Prod.mk.injEq] at h
                obtain ⟨rfl, rfl, rfl⟩ := h
                rw [hx] at hlen
                simp only [List.length_nil] at hlen
                subst hlen
                have hS : ∀ b, E.S b → E.S b ∧ (w.alloc (.cells (vs.flatMap fun v => v.cells.toList).toArray ti.elem)).heap[b]? = w.heap[b]? := fun b hb => ⟨hb, alloc_old w _ (hA.mr.ltS b hb)⟩
                have hM : MR (w.alloc (.cells (vs.flatMap fun v => v.cells.toList).toArray ti.elem)) E μ s.H 0 := MR.step hA.mr hA.mr.apart (fun b hb => by have := hA.mr.ltS b hb; simp [alloc_heap]; omega) (fun b hb => by have := hA.mr.ltκ b hb; simp [alloc_heap]; omega) hA.mr.roots hS (KpH.refl μ s.H)
                  (fun id blk hi => .inl ⟨hi, rfl, fun b q hq => ⟨hq, alloc_old w _ (hA.mr.ltκ b (by simp [hq]))⟩⟩)
                refine k _ _ (hA.put hdn hM ⟨rfl, rfl, rfl, by simp [alloc_heap], fun b hb _ => alloc_old w _ hb, fun b h => h, fun b h => .inl h, fun b h => .inl h⟩ hS (KpH.refl μ s.H) ?_).rel
                exact ⟨_, rfl⟩
              | cons x0 xs0 =>
                rw [hx] at h
                simp only [Prod.mk.injEq] at h
                obtain ⟨rfl, rfl, rfl⟩ := h
                rw [← hx] at k
                have hNB := arr_new (w := w) (E := E) (μ := μ) (H := s.H) (c := len) (cells := (vs.flatMap fun v => v.cells.toList).toArray) (ty := ti.elem) (xs := xs) (m := mdOf e) (mdOf_ne e) (by omega) hcells (fun i hi => by
                  obtain ⟨v, hv, hr⟩ := r3 i hi
                  have hr := hr (.id s.H.length) (fun j => .inside w.heap.size (i * e.lv + j))
                  have hgg : ∀ j y, j < e.lv → v.cells.toList[j]? = some y → (vs.flatMap fun v => v.cells.toList).toArray[i * e.lv + j]? = some y := by
                    intro j y hj hy
                    rw [List.getElem?_toArray, Great.flat_get hpos vs r2, Nat.mul_comm, Nat.mul_add_div hpos, Nat.div_eq_of_lt hj, Nat.add_zero, hv, Nat.mul_add_mod, Nat.mod_eq_of_lt hj]
                    simpa using hy
                  have hS : ∀ b, E.S b → (putκ E w.heap.size (.id s.H.length, .top)).S b ∧ (w.alloc (.cells (vs.flatMap fun v => v.cells.toList).toArray ti.elem)).heap[b]? = w.heap[b]? := fun b hb => ⟨hb, alloc_old w _ (hA.mr.ltS b hb)⟩
                  cases hf : e.flat with
                  | true =>
                    have hr' : Rep w E (.id s.H.length) e xs[i] .fz (fun j => .inside w.heap.size (i * e.lv + j)) (fun j => v.cells.toList[j]?) := Rep.flat hf hr
                    exact Rep.flat (m := .fz) hf (Rep.fz hS e _ (p' := fun _ => .top) (r' := .res 0) hgg hr')
                  | false =>
                    have hn : (mdOf e).nest = .fz := by simp [mdOf, hf, Md.nest]
                    rw [hn] at hr ⊢
                    exact Rep.fz hS e _ hgg hr) 0
                obtain ⟨m1, m2, m3⟩ := MR.alloc hA.mr _ ti.elem _ _ hNB
                rw [hlen] at m1
                refine k _ _ (hA.put hdn m1 m2 m3 (KpH.push s.H _ _) ?_).rel
                exact hd_new _ _ _ rfl e xs (mdOf e)
          · simp at h
        · simp at h
      · simp at h
  · simp at h

theorem rep_zeros {r : Root} {m : Md} : ∀ (e : Ty) (p : Nat → Pos) (g : Nat → Option Value), (∀ j v, e.zeros[j]? = some v → g j = some v) → Rep w E r e e.dflt m p g
  | .int k, p, g, h => h 0 _ rfl
  | .bool, p, g, h => h 0 _ rfl
  | .str, p, g, h => h 0 _ rfl
  | .sl t, p, g, h => by
    refine ⟨.slice none 0 0, h 0 _ rfl, ?_⟩
    by_cases hm : m = .fz
    · exact .inl ⟨hm, .inl ⟨rfl, none, 0, rfl⟩⟩
    · exact .inr ⟨hm, .inl ⟨rfl, none, rfl⟩⟩
  | .pair a b, p, g, h => by
    have hl : ∀ t : Ty, t.zeros.length = t.lv := by
      intro t
      induction t with
      | pair a b iha ihb => simp [Ty.zeros, Ty.lv, iha, ihb]
      | _ => rfl
    refine ⟨rep_zeros a p g (fun j v hv => h j v ?_), rep_zeros b _ _ (fun j v hv => h _ v ?_)⟩
    · have hlt := (List.getElem?_eq_some_iff.1 hv).1
      simp only [Ty.zeros, List.getElem?_append_left hlt]
      exact hv
    · simp only [Ty.zeros]
      rw [List.getElem?_append_right (by rw [hl]; omega), hl, Nat.add_sub_cancel]
      exact hv

theorem zeros_length : ∀ e : Ty, e.zeros.length = e.lv
  | .int _ => rfl
  | .bool => rfl
  | .str => rfl
  | .sl _ => rfl
  | .pair a b => by simp [Ty.zeros, Ty.lv, zeros_length a, zeros_length b]

theorem make_step (m : Md) {o : Oper} {t : TypeId} {l c : Operand} {a : Act} (hT : TabOk P T) (hA : At n w0 E0 s a w E μ) (ho : o.op = .makeSlice t l c) (hg : o.guard = none) {d : Nat} (hd : o.dst = some d) (hdn : d < n) (hm : m ≠ .fz)
    {ti : TI} {e : Ty} (he : elemTy T t = some (ti, e)) {kk kk' : IntKind} (q q' : Int) (el : a.eval l = .int kk q) (ec : a.eval c = .int kk' q') (h0 : 0 ≤ q) (h1 : q ≤ (lim e : Int)) (h2 : q' = q)
    (k : VO P n w0 E0 ops Q rest ⟨(d, .lf (.hd s.H.length 0 none)) :: s.sl, s.H ++ [some (.arr 0 e (List.replicate q.toNat e.dflt) m)]⟩) :
    wpList P ops (fun e a' w' => ∃ s', SRel n w0 E0 s' a' w' ∧ Q e s') (o :: rest) a w := by
  subst h2
  obtain ⟨f1, ej, f2, f3⟩ := elemTy_under hT he
  obtain ⟨info, g1, g2, g3, _, g5, g6⟩ := (hT _ _ f2).info
  rw [f3] at g2 g3 g6
  obtain ⟨z, hz, hz'⟩ := Option.map_eq_some_iff.1 g3
  have hpos := lv_pos e
  have hlim : q'.toNat * info.bytes ≤ 140737488355328 := by
    have a1 : q'.toNat ≤ lim e := by omega
    have a2 : lim e * (24 * e.lv) ≤ 140737488355328 := Nat.div_mul_le_self _ _
    have a3 : q'.toNat * info.bytes ≤ lim e * (24 * e.lv) := Nat.mul_le_mul a1 (by omega)
    omega
  have hlim0 : lim e ≤ 140737488355328 := Nat.div_le_self _ _
  have hrun2 := run_make (P := P) w t ti.elem info z f1 g1 hz kk kk' q' q' h0 (by omega) (by
    have : (info.bytes : Int) * q' = ((q'.toNat * info.bytes : Nat) : Int) := by
      rw [Int.natCast_mul, Int.toNat_of_nonneg h0, Int.mul_comm]
    rw [this]
    omega) (by omega)
  refine wpList_value (y := .slice (some ⟨w.heap.size, 0, none⟩) q'.toNat q'.toNat) (w' := w.alloc (.cells (madeCells z.cells (q'.toNat * info.size)) ti.elem)) hg ?_ ?_
  · simp only [execOp, ho, el, ec, Sem.run_bind, hrun2, Result.andThen_ok, Sem.run_pure]
  · rw [hd]
    have hxl : (List.replicate q'.toNat e.dflt).length = q'.toNat := by simp
    have hNB := arr_new (w := w) (E := E) (μ := μ) (H := s.H) (c := q'.toNat) (cells := madeCells z.cells (q'.toNat * info.size)) (ty := ti.elem) (xs := List.replicate q'.toNat e.dflt) (m := m) hm (by rw [hxl]; exact Nat.le_refl _)
      (by rw [size_madeCells, g2]) (fun i hi => by
        simp only [List.getElem_replicate]
        refine rep_zeros e _ _ (fun j v hv => ?_)
        have hj : j < e.lv := by rw [← zeros_length e]; exact (List.getElem?_eq_some_iff.1 hv).1
        rw [hxl] at hi
        have hzs : z.cells.size = e.lv := by rw [← Array.length_toList, hz', zeros_length]
        have hlt : i * e.lv + j < q'.toNat * info.size := by
          rw [g2]
          have : (i + 1) * e.lv ≤ q'.toNat * e.lv := Nat.mul_le_mul_right _ hi
          rw [Nat.add_mul, Nat.one_mul] at this
          omega
        have hmod : (i * e.lv + j) % e.lv = j := by rw [Nat.mul_comm, Nat.mul_add_mod, Nat.mod_eq_of_lt hj]
        simp only [madeCells, Array.getElem?_map, Array.getElem?_range, hlt, if_true, Option.map_some, hzs, hmod]
        rw [← hz'] at hv
        simp only [Array.getElem?_toList] at hv
        rw [getElem!_pos z.cells j (by omega)]
        rw [Array.getElem?_eq_getElem (by omega)] at hv
        exact hv) 0
    rw [hxl] at hNB
    obtain ⟨m1, m2, m3⟩ := MR.alloc hA.mr _ ti.elem _ _ hNB
    exact k _ _ (hA.put hdn m1 m2 m3 (KpH.push s.H _ _) (hd_new _ _ _ rfl e _ m)).rel

theorem VO.make (m : Md) {o : Oper} {d : Nat} {φ : Prop} {v : AV} {H' : Heap} (hT : TabOk P T) (h : evMake T n m s o = some (d, φ, v, H')) (hφ : φ) (k : VO P n w0 E0 ops Q rest ⟨(d, v) :: s.sl, H'⟩) : VO P n w0 E0 ops Q (o :: rest) s := by
  intro a w hs
  obtain ⟨E, μ, hA⟩ := hs.at
  unfold evMake at h
  split at h
  · rename_i d' t l c hg hd ho
    cases hb : (Nat.blt d' n && decide (m ≠ .fz)) with
    | false => rw [hb] at h; simp at h
    | true =>
      rw [hb] at h
      simp only [Bool.and_eq_true] at hb
      obtain ⟨hb, hm⟩ := hb
      simp only [cond_true] at h
      split at h
      · rename_i ti e kk q kk' q' he hl hc
        simp only [Option.some.injEq, Prod.mk.injEq] at h
        obtain ⟨rfl, rfl, rfl, rfl⟩ := h
        have el := hA.opnd hl
        have ec := hA.opnd hc
        simp only [AR, LR_int] at el ec
        exact make_step m hT hA ho hg hd (by simpa [Nat.blt_eq] using hb) (by simpa using hm) he q q' el ec hφ.1 hφ.2.1 hφ.2.2 k
      · simp at h
  · simp at h
end
end Go.Proofs.Ytgpddckjpokclaa.Vc
