/- A calculus of values over the model, twelfth part: append. It speaks of any program. -/
import Derived.Test.YtgpddckjpokclaaVc11
namespace Go.Proofs.Ytgpddckjpokclaa.Vc
open Go Go.RowKit
set_option linter.unusedVariables false
set_option linter.unusedSimpArgs false

def castL (e' e : Ty) (ys : List e'.den) : Option (List e.den) := if h : e' = e then some (cast (congrArg (fun t => List (Ty.den t)) h) ys) else none

/-- The rows of what is appended. -/
def srcRows (H : Heap) (e : Ty) : AV → Option (List e.den)
  | .lf (.v (.sl e') ys) => castL e' e ys
  | .lf .nil => some []
  | .lf (.hd id ver rng) => match H[id]? with
    | some (some (.arr cur e' ys m)) => cond (Nat.beq ver cur && (decide (m = .tp) || e'.flat)) (match rng with
      | none => castL e' e ys
      | some (o, l) => castL e' e ((ys.drop o).take l)) none
    | _ => none
  | _ => none

def evApp (T : Tab) (n : Nat) (s : St) (o : Oper) : Option (Nat × Prop × AV × Heap) :=
  match o.guard, o.dst, o.op with
  | none, some d, .call { callee := .builtin .append, args, argTypes } => cond (Nat.blt d n) (match args.toList, argTypes.toList with
    | [x, y], [t, t'] => cond (Nat.beq t t') (match elemTy T t, opnd s.sl x, opnd s.sl y with
      | some (_, e), some vx, some vy => match srcRows s.H e vy with
        | some ys => match vx with
          | .lf .nil => some (d, (ys.length ≤ lim e), .lf (.hd s.H.length 0 none), s.H ++ [some (.arr 0 e ys (mdOf e))])
          | .lf (.hd id ver none) => match s.H[id]? with
            | some (some (.arr cur e' xs m)) => cond (Nat.beq ver cur && (decide (m = .tp) || e'.flat)) (match castL e e' ys with
              | some zs => some (d, (xs.length + zs.length ≤ lim e'), .lf (.hd id (ver + 1) none), s.H.set id (some (.arr (ver + 1) e' (xs ++ zs) m)))
              | none => none) none
            | _ => none
          | .lf (.hd id ver (some (0, i))) => match s.H[id]? with
            | some (some (.arr cur e' xs m)) => cond (Nat.beq ver cur && (decide (m = .tp) || e'.flat)) (match castL e e' ys with
              | some zs => some (d, (i + zs.length ≤ xs.length ∧ xs.length ≤ lim e'), .lf (.hd id ver (some (0, i + zs.length))), s.H.set id (some (.arr ver e' (xs.take i ++ zs ++ xs.drop (i + zs.length)) m)))
              | none => none) none
            | _ => none
          | _ => none
        | none => none
      | _, _, _ => none) none
    | _, _ => none) none
  | _, _, _ => none

section
variable {P : Program} {T : Tab} {n : Nat} {w0 : World} {E0 : Env0} {s : St} {ops : Array Oper} {Q : Exit → St → Prop} {rest : List Oper}
variable {w w' : World} {E E' : Env} {μ μ' : Nat → Value} {H H' : Heap}

theorem castL_eq {e' e : Ty} {ys : List e'.den} {zs : List e.den} (h : castL e' e ys = some zs) : ∃ he : e' = e, zs = cast (congrArg (fun t => List (Ty.den t)) he) ys := by
  unfold castL at h
  split at h
  · rename_i he
    simp only [Option.some.injEq] at h
    exact ⟨he, h.symm⟩
  · simp at h

/-- What is appended, in memory: its cells. -/
theorem src_cells {e : Ty} {b o len : Nat} {ys : List e.den} {m : Md} {r : Root} {p : Nat → Nat → Pos} (hl : ys.length = len)
    (h : ∀ i (hi : i < ys.length), Rep w E r e ys[i] m (p i) (fun j => cellAt w b (o + i * e.lv + j))) :
    ∃ news : List Value, news.length = len * e.lv ∧ (∀ (j : Nat) v, news[j]? = some v → w.cell? ((⟨b, o, none⟩ : Addr).add j) = some v) ∧ (∀ v ∈ news, v.oneCell' = true) ∧
      ∀ i (hi : i < ys.length), Rep w E r e ys[i] m (p i) (fun j => news[i * e.lv + j]?) := by
  have hpos := lv_pos e
  have hc : ∀ q, q < len * e.lv → ∃ v, cellAt w b (o + q) = some v ∧ v.oneCell' = true := by
    intro q hq
    have hi : q / e.lv < ys.length := by rw [hl]; exact (Nat.div_lt_iff_lt_mul hpos).2 hq
    have hj : q % e.lv < e.lv := Nat.mod_lt _ hpos
    obtain ⟨a, ha⟩ : ∃ a, (leafs e ys[q / e.lv] m)[q % e.lv]? = some a := ⟨(leafs e ys[q / e.lv] m)[q % e.lv]'(by rw [leafs_length]; exact hj), List.getElem?_eq_getElem _⟩
    obtain ⟨y, h1, h2⟩ := leafs_at (μ := fun _ => .nilFunc) (H := []) e _ m _ _ (h _ hi) _ a ha
    refine ⟨y, ?_, LR_one h2⟩
    rw [← h1]
    congr 1
    rw [Nat.add_assoc, Nat.mul_comm, Nat.div_add_mod]
  refine ⟨(List.range (len * e.lv)).map fun q => (cellAt w b (o + q)).getD undef, by simp, ?_, ?_, ?_⟩
  · intro j v hv
    simp only [List.getElem?_map, List.getElem?_range, Option.map_eq_some_iff] at hv
    obtain ⟨q, hq, rfl⟩ := hv
    have hjq := List.getElem?_eq_some_iff.1 hq
    obtain ⟨hlt, he⟩ := hjq
    simp only [List.length_range] at hlt
    simp only [List.getElem_range] at he
    subst he
    obtain ⟨v, h1, _⟩ := hc j hlt
    rw [add_at]
    show cellAt w b (o + j) = _
    rw [h1]
    rfl
  · intro v hv
    obtain ⟨q, hq, rfl⟩ := List.mem_map.1 hv
    obtain ⟨v, h1, h2⟩ := hc q (by simpa using hq)
    rw [h1]
    exact h2
  · intro i hi
    refine Rep.move (fun _ => True) (fun q => q) (fun c hc => ⟨hc, rfl⟩) (fun c q _ hq => ⟨hq, rfl, fun k => ⟨trivial, rfl⟩⟩) e _ m _ _ _ _ (fun _ => ⟨fun _ => trivial, fun _ => rfl⟩) (fun j v hj hv => ?_) (h i hi)
    have hlt : i * e.lv + j < len * e.lv := by
      have : (i + 1) * e.lv ≤ len * e.lv := Nat.mul_le_mul_right _ (by omega)
      rw [Nat.add_mul, Nat.one_mul] at this
      omega
    have h3 : (List.range (len * e.lv))[i * e.lv + j]? = some (i * e.lv + j) := by simp [hlt]
    simp only [List.getElem?_map, h3, Option.map_some]
    rw [← Nat.add_assoc, hv]
    rfl

structure Src (w : World) (E : Env) (e : Ty) (ys : List e.den) (y : Value) : Prop where
  ex : ∃ (ad : Option Addr) (c : Nat) (news : List Value), y = .slice ad ys.length c ∧ news.length = ys.length * e.lv ∧ (ys ≠ [] → ∃ b, ad = some b ∧ ∀ (j : Nat) v, news[j]? = some v → w.cell? (b.add j) = some v) ∧ (∀ v ∈ news, v.oneCell' = true) ∧
    ∀ i (hi : i < ys.length), Rep w E (.res 0) e ys[i] .fz (fun _ => .top) (fun j => news[i * e.lv + j]?)

theorem Src.nil {e : Ty} {a : Option Addr} {c : Nat} : Src w E e [] (.slice a 0 c) := ⟨a, c, [], rfl, by simp, fun h => absurd rfl h, by simp, fun i hi => by simp at hi⟩

theorem srcRows_run {k : Nat} (hM : MR w E μ H k) {e : Ty} {v : AV} {ys : List e.den} (h : srcRows H e v = some ys) {y : Value} (hy : AR w E μ H v y) : Src w E e ys y := by
  unfold srcRows at h
  split at h
  · rename_i e' zs
    obtain ⟨rfl, rfl⟩ := castL_eq h
    try simp only [cast_eq]
    obtain ⟨u, hu, hr⟩ := hy
    simp only [at0, if_true, Option.some.injEq] at hu
    subst hu
    rcases hr with ⟨_, ⟨rfl, a, c, rfl⟩ | ⟨b, o, c, rfl, h1, h2, h3⟩⟩ | ⟨hr, _⟩
    · exact Src.nil
    · obtain ⟨news, n1, n2, n3, n4⟩ := src_cells rfl h3
      exact ⟨_, c, news, rfl, n1, fun _ => ⟨_, rfl, n2⟩, n3, fun i hi => Rep.fz (fun c hc => ⟨hc, rfl⟩) e' _ (fun _ _ _ h => h) (n4 i hi)⟩
    · exact absurd rfl hr
  · simp only [Option.some.injEq] at h
    subst h
    obtain ⟨a, rfl⟩ := hy
    exact Src.nil
  · rename_i id ver rng
    split at h
    · rename_i cur e' zs m hH
      cases hc : (Nat.beq ver cur && (decide (m = .tp) || e'.flat)) with
      | false => rw [hc] at h; simp at h
      | true =>
        rw [hc] at h
        simp only [cond_true] at h
        simp only [Bool.and_eq_true, Bool.or_eq_true, decide_eq_true_eq] at hc
        obtain ⟨hv, hfl⟩ := hc
        simp only [AR, LR, hH] at hy
        have hy' := hy.2.2 (Nat.eq_of_beq_eq_true hv)
        obtain ⟨hm, ha⟩ := hM.arr hH
        have toFz : ∀ {x : e'.den} {p : Nat → Pos} {g : Nat → Option Value}, Rep w E (.id id) e' x m.nest p g → Rep w E (.res 0) e' x .fz (fun _ => .top) g := by
          intro x p g hr
          rcases hfl with rfl | hf
          · exact Rep.fz (fun c hc => ⟨hc, rfl⟩) e' x (fun _ _ _ h => h) hr
          · exact Rep.flat hf hr
        cases rng with
        | none =>
          obtain ⟨rfl, rfl⟩ := castL_eq h
          try simp only [cast_eq]
          simp only [HdR] at hy'
          subst hy'
          rcases ha with ⟨rfl, a, ha⟩ | ⟨b, c, arr, ty, g1, g2, g3, g4, g5, g6⟩
          · rw [ha]; exact Src.nil
          · rw [g1]
            obtain ⟨news, n1, n2, n3, n4⟩ := src_cells (o := 0) (p := fun _ _ => .top) (r := .res 0) (m := .fz) rfl (fun i hi => by simpa using toFz (g6 i hi))
            exact ⟨_, c, news, rfl, n1, fun _ => ⟨_, rfl, n2⟩, n3, n4⟩
        | some ol =>
          obtain ⟨o, l⟩ := ol
          obtain ⟨rfl, rfl⟩ := castL_eq h
          try simp only [cast_eq]
          replace hy' := HdR.old hy'
          rcases hy' with ⟨rfl, a, c, rfl⟩ | ⟨b, c, c', f1, rfl, f3, f4⟩
          · have : (zs.drop o).take 0 = [] := by simp
            rw [this]
            exact Src.nil
          · rcases ha with ⟨rfl, a, ha⟩ | ⟨b', c2, arr, ty, g1, g2, g3, g4, g5, g6⟩
            · simp at f3
              obtain ⟨rfl, rfl⟩ := f3
              exact Src.nil
            · rw [f1] at g1
              simp only [Value.slice.injEq, Option.some.injEq, Addr.mk.injEq, and_true] at g1
              obtain ⟨rfl, _, _⟩ := g1
              have hlen : ((zs.drop o).take l).length = l := by simp; omega
              obtain ⟨news, n1, n2, n3, n4⟩ := src_cells (w := w) (E := E) (e := e') (b := b) (o := o * e'.lv) (len := l) (ys := (zs.drop o).take l) (p := fun _ _ => .top) (r := .res 0) (m := .fz) hlen (fun i hi => by
                rw [hlen] at hi
                have hx : ((zs.drop o).take l)[i]'(by rw [hlen]; exact hi) = zs[o + i] := by simp
                rw [hx]
                have := toFz (g6 (o + i) (by omega))
                have e : (fun j => cellAt w b (o * e'.lv + i * e'.lv + j)) = fun j => cellAt w b ((o + i) * e'.lv + j) := by
                  funext j
                  rw [Nat.add_mul]
                rw [e]
                exact this)
              refine ⟨_, c', news, by rw [hlen], by rw [hlen]; exact n1, fun _ => ⟨_, rfl, n2⟩, n3, n4⟩
    · simp at h
  · simp at h

/-- append, at the machine: nothing to append; room; a new row. -/
def AppRun (P : Program) (w : World) (t t' rt elem : TypeId) (bytes lv : Nat) (y : Value) (m : Nat) (news : List Value) : Prop :=
  ∀ (ty : TypeId) (base : Option Addr) (sLen sCap : Nat) (olds : List Value), olds.length = sLen * lv → sLen ≤ sCap →
    ((sCap = 0 ∧ olds = []) ∨ ∃ g cur, base = some ⟨g, 0, none⟩ ∧ w.heap[g]? = some (.cells cur ty (0, 0)) ∧ cur.size = sCap * lv ∧ ∀ (j : Nat) v, olds[j]? = some v → w.cell? ((⟨g, 0, none⟩ : Addr).add j) = some v) →
    (sLen + m) * bytes ≤ 140737488355328 → sLen + m ≤ 140737488355328 →
    ∃ y' w', (Builtin.append_ #[t, t'] rt #[.slice base sLen sCap, y]).run P w = .ok y' w' ∧
      ((m = 0 ∧ y' = .slice base sLen sCap ∧ w' = w) ∨
       (0 < m ∧ ∃ g cur, base = some ⟨g, 0, none⟩ ∧ w.heap[g]? = some (.cells cur ty (0, 0)) ∧ cur.size = sCap * lv ∧ sLen + m ≤ sCap ∧ y' = .slice base (sLen + m) sCap ∧ w' = w.setRow g (cur.toList.take (sLen * lv) ++ news ++ cur.toList.drop (sLen * lv + news.length)).toArray) ∨
       sCap < sLen + m ∧ ∃ cap' cells, sLen + m ≤ cap' ∧ y' = .slice (some ⟨w.heap.size, 0, none⟩) (sLen + m) cap' ∧ w' = w.drew.alloc (.cells cells elem) ∧ cells.size = cap' * lv ∧ (∃ tail, cells.toList = olds ++ news ++ tail))

theorem append_run {t elem ty : TypeId} {ti : TI} {info : TypeInfo} {z : Value} {lv : Nat} (ht : P.underlying t = some (.slice elem)) (hi : P.info? elem = some info) (hz : info.zero = some z) (hsz : info.size = lv) (hzs : z.cells.size = lv) (hlv : 0 < lv)
    (rt : TypeId) {base : Option Addr} {sLen sCap : Nat} {olds : List Value} (hlo : olds.length = sLen * lv) (hcap : sLen ≤ sCap)
    (hbase : (sCap = 0 ∧ olds = []) ∨ ∃ g cur, base = some ⟨g, 0, none⟩ ∧ w.heap[g]? = some (.cells cur ty (0, 0)) ∧ cur.size = sCap * lv ∧ ∀ (j : Nat) v, olds[j]? = some v → w.cell? ((⟨g, 0, none⟩ : Addr).add j) = some v)
    {ad : Option Addr} {m c : Nat} {news : List Value} (hl : news.length = m * lv) (hnews : 0 < m → ∃ b, ad = some b ∧ ∀ (j : Nat) v, news[j]? = some v → w.cell? (b.add j) = some v) (h1 : ∀ v ∈ news, v.oneCell' = true)
    (hfit : (sLen + m) * info.bytes ≤ 140737488355328) (hsm : sLen + m ≤ 140737488355328) :
    ∃ y' w', (Builtin.append_ #[t, t] rt #[.slice base sLen sCap, .slice ad m c]).run P w = .ok y' w' ∧
      ((m = 0 ∧ y' = .slice base sLen sCap ∧ w' = w) ∨
       (0 < m ∧ ∃ g cur, base = some ⟨g, 0, none⟩ ∧ w.heap[g]? = some (.cells cur ty (0, 0)) ∧ cur.size = sCap * lv ∧ sLen + m ≤ sCap ∧ y' = .slice base (sLen + m) sCap ∧ w' = w.setRow g (cur.toList.take (sLen * lv) ++ news ++ cur.toList.drop (sLen * lv + news.length)).toArray) ∨
       sCap < sLen + m ∧ ∃ cap' cells, sLen + m ≤ cap' ∧ y' = .slice (some ⟨w.heap.size, 0, none⟩) (sLen + m) cap' ∧ w' = w.drew.alloc (.cells cells elem) ∧ cells.size = cap' * lv ∧ (∃ tail, cells.toList = olds ++ news ++ tail)) := by
  by_cases hm0 : m = 0
  · subst hm0
    refine ⟨.slice base sLen sCap, w, ?_, .inl ⟨rfl, rfl, rfl⟩⟩
    have hf : ∀ ad : Option Addr, (Builtin.firstCells info.size 0 (.slice ad 0 c)).run P w = .ok #[] w := by
      intro ad
      cases ad with
      | none => simp [Builtin.firstCells]
      | some b => simp [Builtin.firstCells, loadCells, loadCellsFrom]
    cases base with
    | none => simp [Builtin.append_, run_underlying ht, sizeOf, typeInfo, hi, Builtin.lenOf, hcap, hf]
    | some b => simp [Builtin.append_, run_underlying ht, sizeOf, typeInfo, hi, Builtin.lenOf, hcap, hf, storeCells]
  · obtain ⟨b, rfl, hb⟩ := hnews (by omega)
    by_cases hroom : sLen + m ≤ sCap
    · rcases hbase with ⟨h0, _⟩ | ⟨g, cur, rfl, hg, hcur, ho⟩
      · omega
      · have hmul : (sLen + m) * lv ≤ sCap * lv := Nat.mul_le_mul_right _ hroom
        rw [Nat.add_mul] at hmul
        have hst := run_storeCells_at P g (sLen * lv) ty news 0 cur w hg (by omega) h1
        simp only [Nat.add_zero] at hst
        have hf := run_firstCells_some (P := P) w lv m b m c news hl hb
        refine ⟨.slice (some ⟨g, 0, none⟩) (sLen + m) sCap, _, ?_, .inr (.inl ⟨by omega, g, cur, rfl, hg, hcur, hroom, rfl, rfl⟩)⟩
        simp [Builtin.append_, run_underlying ht, sizeOf, typeInfo, hi, hsz, Builtin.lenOf, hroom, hf, Addr.add_lit, hst]
    · have hb' : sLen + m ≤ maxLen := by unfold maxLen; omega
      have hcaple : sLen + m ≤ grownCap w (sLen + m) sCap elem := by simp [grownCap, Question.cut]
      have hfit2 : Builtin.nextslicecap (sLen + m) sCap * info.bytes ≤ 281474976710656 := growslice_fits (by omega) hfit
      rcases hbase with ⟨h0, rfl⟩ | ⟨g, cur, rfl, hg, hcur, ho⟩
      · have hs0 : sLen = 0 := by omega
        subst h0 hs0
        have hz0 : (grownCap w m 0 elem - m) * z.cells.size = (grownCap w m 0 elem - m) * lv := by rw [hzs]
        simp only [Nat.zero_add] at hcaple hfit2
        cases base with
        | none =>
          have := run_append_nil (P := P) w t rt elem info z ht hi hz b m c news (by rw [hsz]; exact hl) hb (by omega) (by omega) (by rw [Nat.zero_add] at hfit; omega)
          refine ⟨_, _, this, .inr (.inr ⟨by omega, grownCap w m 0 elem, _, by simpa using hcaple, by simp, rfl, ?_, Builtin.zeroCells z.cells (grownCap w m 0 elem - m) |>.toList, by simp⟩)⟩
          simp only [Array.size_append, List.size_toArray, hl, size_zeroCells, hz0]
          rw [← Nat.add_mul]
          congr 1
          omega
        | some b0 =>
          have := run_append_grow (P := P) w t rt elem info z ht hi hz b0 0 0 [] (by simp) (by simp) b m c news (by rw [hsz]; exact hl) hb (by omega) (by omega) (by simpa using hfit2)
          simp only [Nat.zero_add] at this
          refine ⟨_, _, this, .inr (.inr ⟨by omega, grownCap w m 0 elem, _, by simpa using hcaple, by simp, rfl, ?_, Builtin.zeroCells z.cells (grownCap w m 0 elem - m) |>.toList, by simp⟩)⟩
          simp only [Array.size_append, List.size_toArray, hl, size_zeroCells, hz0, List.length_nil, Nat.zero_add]
          rw [← Nat.add_mul]
          congr 1
          omega
      · have := run_append_grow (P := P) w t rt elem info z ht hi hz ⟨g, 0, none⟩ sLen sCap olds (by rw [hsz]; exact hlo) ho b m c news (by rw [hsz]; exact hl) hb (by omega) (by omega) hfit2
        refine ⟨_, _, this, .inr (.inr ⟨by omega, grownCap w (sLen + m) sCap elem, _, hcaple, rfl, rfl, ?_, Builtin.zeroCells z.cells (grownCap w (sLen + m) sCap elem - (sLen + m)) |>.toList, by simp⟩)⟩
        simp only [Array.size_append, List.size_toArray, hl, hlo, size_zeroCells, hzs]
        rw [← Nat.add_mul, ← Nat.add_mul]
        congr 1
        omega

/-- What is appended, however it comes in. -/
structure SrcG (P : Program) (w : World) (E : Env) (e : Ty) (ys : List e.den) (t t' rt elem : TypeId) (bytes : Nat) (y : Value) (news : List Value) : Prop where
  len : news.length = ys.length * e.lv
  rows : ∀ i (hi : i < ys.length), Rep w E (.res 0) e ys[i] .fz (fun _ => .top) (fun j => news[i * e.lv + j]?)
  run : AppRun P w t t' rt elem bytes e.lv y ys.length news

theorem Src.gen {e : Ty} {ys : List e.den} {y : Value} (hy : Src w E e ys y) {t elem : TypeId} {info : TypeInfo} {z : Value} (ht : P.underlying t = some (.slice elem)) (hi : P.info? elem = some info) (hz : info.zero = some z) (hsz : info.size = e.lv) (hzs : z.cells.size = e.lv) (rt : TypeId) :
    ∃ news, SrcG P w E e ys t t rt elem info.bytes y news := by
  obtain ⟨ad, cc, news, rfl, n2, n3, n4, n5⟩ := hy
  exact ⟨news, n2, n5, fun ty base sLen sCap olds h1 h2 h3 h4 h5 => append_run (ty := ty) (ti := ⟨e, 0, [], []⟩) ht hi hz hsz hzs (lv_pos e) rt h1 h2 h3 n2 (fun h => n3 (by intro e; subst e; simp at h)) n4 h4 h5⟩
end
end Go.Proofs.Ytgpddckjpokclaa.Vc
