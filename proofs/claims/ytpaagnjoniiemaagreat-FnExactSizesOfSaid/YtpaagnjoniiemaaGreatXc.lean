/- A calculus of values over the model: what a walk keeps as plain values, and the rules for the forms of code. It speaks of any program. -/
import Derived.Test.YtpaagnjoniiemaaGreatXb
namespace Go.Proofs.YtpaagnjoniiemaaGreat.Vc
open Go Go.RowKit Go.Lib
set_option linter.unusedVariables false
set_option linter.unusedSimpArgs false
section
variable {P : Program} {T : Tab} {n : Nat} {w0 : World} {E0 : Env0} {s s' : St} {ops : Array Oper} {Q : Exit → St → Prop} {rest : List Oper}
variable {w w' : World} {E E' : Env} {μ μ' : Nat → Value} {H H' : Heap}
def evAppS (T : Tab) (n : Nat) (s : St) (o : Oper) : Option (Nat × Prop × AV × Heap) :=
 match o.guard, o.dst, o.op with
 | none, some d, .call { callee := .builtin .append, args, argTypes } => cond (Nat.blt d n) (match args.toList, argTypes.toList with
  | [x, y], [t, t'] => cond (isBytes T t && isStr T t') (match opnd s.sl x, opnd s.sl y with
   | some vx, some (.lf (.v .str ys)) => match vx with
    | .lf .nil => some (d, (ys.size ≤ lim (.int .u8)), .lf (.hd s.H.length 0 none), s.H ++ [some (.arr 0 (.int .u8) (bytesOf ys) .dp)])
    | .lf (.hd id ver none) => match s.H[id]? with
     | some (some (.arr cur (.int .u8) xs m)) => cond (Nat.beq ver cur) (some (d, (xs.length + ys.size ≤ lim (.int .u8)), .lf (.hd id (ver + 1) none), s.H.set id (some (.arr (ver + 1) (.int .u8) (xs ++ bytesOf ys) m)))) none
     | _ => none
    | _ => none
   | _, _ => none) none
  | _, _ => none) none
 | _, _, _ => none
def isI64 (T : Tab) (t : TypeId) : Bool := match T t with
 | some { ty := .int .i64, .. } => true
 | _ => false
theorem zeroCells_one {z : Array Value} (hz : ∀ v ∈ z, v.oneCell' = true) (hn : 0 < z.size) (q : Nat) : ∀ v ∈ (Builtin.zeroCells z q).toList, v.oneCell' = true := by
 intro v hv
 simp only [Builtin.zeroCells, Array.toList_map, List.mem_map] at hv
 obtain ⟨i, _, rfl⟩ := hv
 have := Nat.mod_lt i hn
 rw [getElem!_pos z _ this]
 exact hz _ (Array.getElem_mem this)
theorem wrap_small {q : Nat} (h : q ≤ 140737488355328) : IntKind.i64.wrap (q : Int) = q := by
 have e : (q : Int) % 2 ^ 64 = q := Int.emod_eq_of_lt (by omega) (by omega)
 simp only [IntKind.wrap, IntKind.bits, IntKind.signed, e]
 split
 ·rename_i h1
  simp at h1
  omega
 ·rfl
theorem append_run_z {t u elem : TypeId} {info : TypeInfo} {z : Value} {e : Ty} (ht : P.underlying t = some (.slice elem)) (hu : P.underlying u = some (.int .i64)) (hi : P.info? elem = some info) (hz : info.zero = some z) (hsz : info.size = e.lv) (hzs : z.cells.toList = e.zeros) (rt : TypeId) (q : Nat) (hfq : q * info.bytes ≤ 140737488355328) (hsq : q ≤ 140737488355328) :
  AppRun P w t u rt elem info.bytes e.lv (.int .i64 q) q (Builtin.zeroCells z.cells q).toList := by
 intro ty base sLen sCap olds hlo hcap hbase hfit hsm
 have hw := wrap_small hsq
 have hpos := lv_pos e
 have hzl : z.cells.size = e.lv := by rw [← Array.length_toList, hzs, zeros_length]
 have hl : (Builtin.zeroCells z.cells q).toList.length = q * e.lv := by rw [Array.length_toList]; simp [size_zeroCells, hzl]
 have h1 : ∀ v ∈ (Builtin.zeroCells z.cells q).toList, v.oneCell' = true := zeroCells_one (fun v hv => zeros_one e v (by rw [← hzs]; exact Array.mem_toList_iff.2 hv)) (by omega) q
 have hneg : ¬ ((q : Int) < 0) := by omega
 have hbig : ¬ ((q : Int) * (info.bytes : Int) > 281474976710656) := by
  have : (q : Int) * (info.bytes : Int) = ((q * info.bytes : Nat) : Int) := by rw [Int.natCast_mul]
  omega
 by_cases hm0 : q = 0
 ·subst hm0
  refine ⟨.slice base sLen sCap, w, ?_, .inl ⟨rfl, rfl, rfl⟩⟩
  have hw' : IntKind.i64.wrap (0 : Int) = 0 := hw
  cases base with
  | none => simp [Builtin.append_, run_underlying ht, run_underlying hu, sizeOf, typeInfo, hi, hcap, asInt, asIntOf, hw']
  | some b => simp [Builtin.append_, run_underlying ht, run_underlying hu, sizeOf, typeInfo, hi, hcap, asInt, asIntOf, hw', storeCells]
 ·have hne : ¬ (q * e.lv = 0) := Nat.pos_iff_ne_zero.1 (Nat.mul_pos (by omega) hpos)
  by_cases hroom : sLen + q ≤ sCap
  ·rcases hbase with ⟨h0, _⟩ | ⟨g, cur, rfl, hg, hcur, ho⟩
   ·omega
   ·have hmul : (sLen + q) * e.lv ≤ sCap * e.lv := Nat.mul_le_mul_right _ hroom
    rw [Nat.add_mul] at hmul
    have hst := run_storeCells_at P g (sLen * e.lv) ty (Builtin.zeroCells z.cells q).toList 0 cur w hg (by omega) h1
    simp only [Nat.add_zero] at hst
    refine ⟨.slice (some ⟨g, 0, none⟩) (sLen + q) sCap, _, ?_, .inr (.inl ⟨by omega, g, cur, rfl, hg, hcur, hroom, rfl, rfl⟩)⟩
    simp [Builtin.append_, run_underlying ht, run_underlying hu, sizeOf, typeInfo, zeroValue, hi, hz, hsz, asInt, asIntOf, hw, hneg, hbig, hne, hroom, Addr.add_lit, hst]
  ·have hcaple : sLen + q ≤ grownCap w (sLen + q) sCap elem := by
    have : sLen + q ≤ maxLen := by unfold maxLen; omega
    simp [grownCap, Question.cut]
   have hfit2 : Builtin.nextslicecap (sLen + q) sCap * info.bytes ≤ 281474976710656 := growslice_fits (by omega) hfit
   have h48' : ¬ (281474976710656 < Builtin.nextslicecap (sLen + q) sCap * info.bytes) := by omega
   have h63' : ¬ (9223372036854775807 < ((sLen : Int) + (q : Int))) := by omega
   have hfo : ∃ f : Sem (Array Value), True := ⟨pure #[], trivial⟩
   have hold : (Builtin.firstCells info.size sLen (.slice base sLen sCap)).run P w.drew = .ok olds.toArray w.drew := by
    rcases hbase with ⟨h0, rfl⟩ | ⟨g, cur, rfl, hg, hcur, ho⟩
    ·have hs0 : sLen = 0 := by omega
     subst hs0
     cases base with
     | none => simp [Builtin.firstCells]
     | some b => simp [Builtin.firstCells, loadCells, loadCellsFrom]
    ·exact run_firstCells_some (P := P) w.drew info.size sLen ⟨g, 0, none⟩ sLen sCap olds (by rw [hsz]; exact hlo) (by simpa using ho)
   refine ⟨_, w.drew.alloc (.cells (olds.toArray ++ Builtin.zeroCells z.cells q ++ Builtin.zeroCells z.cells (grownCap w (sLen + q) sCap elem - (sLen + q))) elem), ?_, .inr (.inr ⟨by omega, grownCap w (sLen + q) sCap elem, _, hcaple, rfl, rfl, ?_, (Builtin.zeroCells z.cells (grownCap w (sLen + q) sCap elem - (sLen + q))).toList, by simp⟩)⟩
   ·simp [Builtin.append_, run_underlying ht, run_underlying hu, sizeOf, typeInfo, zeroValue, hi, hz, hsz, asInt, asIntOf, hw, hneg, hbig, hne, hroom, h63', h48', Question.forced, newRow, grownCap]
    rw [hsz] at hold
    simp [hold]
   ·rw [Array.length_toList] at hl
    simp only [Array.size_append, List.size_toArray, hl, hlo, size_zeroCells, hzl]
    rw [← Nat.add_mul, ← Nat.add_mul]
    congr 1
    omega
def evAppZ (T : Tab) (n : Nat) (s : St) (o : Oper) : Option (Nat × Prop × AV × Heap) :=
 match o.guard, o.dst, o.op with
 | none, some d, .call { callee := .builtin .append, args, argTypes } => cond (Nat.blt d n) (match args.toList, argTypes.toList with
  | [x, y], [t, t'] => cond (isI64 T t') (match elemTy T t, opnd s.sl x, opnd s.sl y with
   | some (_, e), some (.lf .nil), some (.lf (.v (.int .i64) q)) => some (d, (0 ≤ q ∧ q ≤ (lim e : Int)), .lf (.hd s.H.length 0 none), s.H ++ [some (.arr 0 e (List.replicate q.toNat e.dflt) (mdOf e))])
   | _, _, _ => none) none
  | _, _ => none) none
 | _, _, _ => none
theorem VO.appZ {o : Oper} {d : Nat} {φ : Prop} {v : AV} {H' : Heap} (hT : TabOk P T) (h : evAppZ T n s o = some (d, φ, v, H')) (hφ : φ) (k : VO P n w0 E0 ops Q rest ⟨(d, v) :: s.sl, H'⟩) : VO P n w0 E0 ops Q (o :: rest) s := by
 intro a w hs
 obtain ⟨E, μ, hA⟩ := hs.at
 unfold evAppZ at h
 split at h
 ·rename_i d' args argTypes hg hd ho
  cases hb : Nat.blt d' n with
  | false => rw [hb] at h; simp at h
  | true =>
   rw [hb] at h
   simp only [cond_true] at h
   have hdn : d' < n := by simpa [Nat.blt_eq] using hb
   split at h
   ·rename_i x y t t' hargs hts
    cases ht : isI64 T t' with
    | false => rw [ht] at h; simp at h
    | true =>
     rw [ht] at h
     simp only [cond_true] at h
     have hu : P.underlying t' = some (.int .i64) := by
      unfold isI64 at ht
      split at ht
      ·rename_i hi
       exact (hT _ _ hi).under
      ·simp at ht
     have ha1 : args = #[x, y] := by rw [← Array.toArray_toList (xs := args), hargs]
     have ha2 : argTypes = #[t, t'] := by rw [← Array.toArray_toList (xs := argTypes), hts]
     split at h
     ·rename_i ti e q he hx hy
      simp only [Option.some.injEq, Prod.mk.injEq] at h
      obtain ⟨rfl, rfl, rfl, rfl⟩ := h
      have hq0 : (0 : Int) ≤ q := hφ.1
      have hq1 : Int.toNat q ≤ lim e := Int.toNat_le.2 hφ.2
      have ey : a.eval y = .int .i64 q := by
       have := hA.opnd hy
       simpa [AR, LR, Rep, at0] using this
      have hqe : ((q.toNat : Nat) : Int) = q := Int.toNat_of_nonneg hq0
      have hxx := hA.opnd hx
      have hlim0 : lim e ≤ 140737488355328 := Nat.div_le_self _ _
      refine app_nil hT hA ho rfl ha1 ha2 hg hd hdn he hxx (ys := List.replicate q.toNat e.dflt) (fun info z g1 hz g2 hz' => ?_) (by rw [List.length_replicate]; exact hq1) k
      obtain ⟨f1, ej, f2, f3⟩ := elemTy_under hT he
      obtain ⟨info', g1', g2', g3', _, g5, g6⟩ := (hT _ _ f2).info
      rw [g1] at g1'
      simp only [Option.some.injEq] at g1'
      subst g1'
      rw [f3] at g6
      have hfit : q.toNat * info.bytes ≤ 140737488355328 := by
       have a1 : q.toNat ≤ lim e := hq1
       have a2 : lim e * (24 * e.lv) ≤ 140737488355328 := Nat.div_mul_le_self _ _
       have a3 : q.toNat * info.bytes ≤ lim e * (24 * e.lv) := Nat.mul_le_mul a1 (by omega)
       omega
      refine ⟨(Builtin.zeroCells z.cells q.toNat).toList, by rw [Array.length_toList, List.length_replicate, size_zeroCells, show z.cells.size = e.lv by rw [← Array.length_toList, hz', zeros_length]], fun i hi => ?_, ?_⟩
      ·rw [List.length_replicate] at hi
       simp only [List.getElem_replicate]
       refine rep_zeros e _ _ (fun j v hv => ?_)
       have hj : j < e.lv := by rw [← zeros_length e]; exact (List.getElem?_eq_some_iff.1 hv).1
       rw [zeroCells_at hz' hi hj]
       exact hv
      ·rw [ey, List.length_replicate, ← hqe]
       simp only [Int.toNat_natCast]
       exact append_run_z f1 hu g1 hz g2 hz' _ _ hfit (Nat.le_trans hq1 hlim0)
     ·simp at h
   ·simp at h
 ·simp at h
def evCapN (T : Tab) (n : Nat) (s : St) (o : Oper) : Option (Nat × AV) :=
 match o.guard, o.dst, o.op with
 | none, some d, .call { callee := .builtin .cap, args, argTypes } => cond (Nat.blt d n) (match args.toList, argTypes.toList with
  | [x], [t] => match elemTy T t, opnd s.sl x with
   | some _, some (.lf .nil) => some (d, .lf (.v (.int .i64) (0 : Int)))
   | _, _ => none
  | _, _ => none) none
 | _, _, _ => none
theorem VO.capN {o : Oper} {d : Nat} {v : AV} (hT : TabOk P T) (h : evCapN T n s o = some (d, v)) (k : VO P n w0 E0 ops Q rest ⟨(d, v) :: s.sl, s.H⟩) : VO P n w0 E0 ops Q (o :: rest) s := by
 intro a w hs
 obtain ⟨E, μ, hA⟩ := hs.at
 unfold evCapN at h
 split at h
 ·rename_i d' args argTypes hg hd ho
  cases hb : Nat.blt d' n with
  | false => rw [hb] at h; simp at h
  | true =>
   rw [hb] at h
   simp only [cond_true] at h
   have hdn : d' < n := by simpa [Nat.blt_eq] using hb
   split at h
   ·rename_i x t hargs hts
    split at h
    ·rename_i te he hx
     simp only [Option.some.injEq, Prod.mk.injEq] at h
     obtain ⟨rfl, rfl⟩ := h
     have ha1 : args = #[x] := by rw [← Array.toArray_toList (xs := args), hargs]
     have ha2 : argTypes = #[t] := by rw [← Array.toArray_toList (xs := argTypes), hts]
     obtain ⟨ti, e⟩ := te
     obtain ⟨f1, _⟩ := elemTy_under hT he
     obtain ⟨ad, hxx⟩ := hA.opnd hx
     refine wpList_value (y := .int .i64 0) (w' := w) hg ?_ ?_
     ·simp only [execOp, ho, resolve, ha1, ha2, Sem.run_bind, Sem.run_pure, Result.andThen_ok, invoke, builtin]
      simp only [List.map_toArray, List.map_cons, List.map_nil, hxx]
      simp [Builtin.cap_, run_underlying f1, goInt]
     ·rw [hd]
      refine k _ _ (hA.put hdn hA.mr (Ext.refl w E) (fun b hb => ⟨hb, rfl⟩) (KpH.refl μ s.H) ?_).rel
      simp [AR, LR, Rep, at0]
    ·simp at h
   ·simp at h
 ·simp at h
def evCutN (T : Tab) (n : Nat) (s : St) (o : Oper) : Option (Nat × Prop × AV) :=
 match o.guard, o.dst, o.op with
 | none, some d, .slice t x none (some hi) none => cond (Nat.blt d n) (match elemTy T t, opnd s.sl x, opnd s.sl hi with
  | some _, some (.lf .nil), some (.lf (.v (.int _) q)) => some (d, (q = (0 : Int)), .lf .nil)
  | _, _, _ => none) none
 | _, _, _ => none
theorem VO.cutN {o : Oper} {d : Nat} {φ : Prop} {v : AV} (hT : TabOk P T) (h : evCutN T n s o = some (d, φ, v)) (hφ : φ) (k : VO P n w0 E0 ops Q rest ⟨(d, v) :: s.sl, s.H⟩) : VO P n w0 E0 ops Q (o :: rest) s := by
 intro a w hs
 obtain ⟨E, μ, hA⟩ := hs.at
 unfold evCutN at h
 split at h
 ·rename_i d' t x hi hg hd ho
  cases hb : Nat.blt d' n with
  | false => rw [hb] at h; simp at h
  | true =>
   rw [hb] at h
   simp only [cond_true] at h
   have hdn : d' < n := by simpa [Nat.blt_eq] using hb
   split at h
   ·rename_i te kk q he hx hq
    simp only [Option.some.injEq, Prod.mk.injEq] at h
    obtain ⟨rfl, rfl, rfl⟩ := h
    obtain ⟨ti, e⟩ := te
    obtain ⟨f1, ej, f2, f3⟩ := elemTy_under hT he
    obtain ⟨ad, hxx⟩ := hA.opnd hx
    have hqq := hA.opnd hq
    simp only [AR, LR_int] at hqq
    subst hφ
    refine wpList_value (y := .slice ad 0 0) (w' := w) hg ?_ ?_
    ·have := slice_run (P := P) (T := T) hT f1 f2 (a := ad) (len := 0) (cap := 0) (lo := none) (hi := some (.int kk 0)) (l := 0) (h := 0) (Nat.le_refl 0) (.inl ⟨rfl, rfl⟩) (.inr ⟨kk, 0, rfl, Int.le_refl 0, rfl⟩) (Nat.le_refl 0) (Nat.le_refl 0) w
     simp only [if_true, Nat.sub_self] at this
     simp only [execOp, ho, hxx, Option.map_none, Option.map_some, hqq, Sem.run_bind, this, Result.andThen_ok, Sem.run_pure]
    ·rw [hd]
     exact k _ _ (hA.put (v := .lf .nil) (y := .slice ad 0 0) hdn hA.mr (Ext.refl w E) (fun b hb => ⟨hb, rfl⟩) (KpH.refl μ s.H) (show ∃ a', Value.slice ad 0 0 = .slice a' 0 0 from ⟨ad, rfl⟩)).rel
   ·simp at h
 ·simp at h
theorem Lf.unfrz {id : Nat} {H1 : Heap} (h1 : H1[id]? = some none) {a : Lf} {y : Value} (h : LR w E μ H1 (a.frz H id) y) : LR w E μ H1 a y := by
 cases a with
 | hd i ver rng =>
  simp only [Lf.frz] at h
  cases hb : Nat.beq i id with
  | false => rw [hb] at h; exact h
  | true =>
   have := Nat.eq_of_beq_eq_true hb
   subst this
   exact ⟨LR_one h, by simp [h1]⟩
 | v t x => exact h
 | nil => exact h
 | ptr i ver a b => exact h
 | fp t x j => exact h
 | any => exact h
theorem All2.unmap {α β γ : Type} {R : α → β → Prop} {R' : γ → β → Prop} {f : γ → α} (h : ∀ x y, R (f x) y → R' x y) : ∀ {xs : List γ} {ys : List β}, All2 R (xs.map f) ys → All2 R' xs ys
 | [], [], .nil => .nil
 | x :: xs, y :: ys, .cons h1 h2 => .cons (h _ _ h1) (All2.unmap h h2)
theorem SV.unfrz {id : Nat} {H1 : Heap} (h1 : H1[id]? = some none) {a : SV} {y : Value} (h : SR w E μ H1 (a.frz H id) y) : SR w E μ H1 a y := by
 cases a with
 | lf a => exact Lf.unfrz (a := a) h1 h
 | agg l => obtain ⟨arr, h2, h3⟩ := h; exact ⟨arr, h2, All2.unmap (f := Lf.frz H id) (fun _ _ h => Lf.unfrz h1 h) h3⟩
theorem AV.unfrz {id : Nat} {H1 : Heap} (h1 : H1[id]? = some none) {a : AV} {y : Value} (h : AR w E μ H1 (a.frz H id) y) : AR w E μ H1 a y := by
 cases a with
 | lf a => exact Lf.unfrz (a := a) h1 h
 | agg l => obtain ⟨arr, h2, h3⟩ := h; exact ⟨arr, h2, All2.unmap (f := Lf.frz H id) (fun _ _ h => Lf.unfrz h1 h) h3⟩
 | tup l => obtain ⟨arr, h2, h3⟩ := h; exact ⟨arr, h2, All2.unmap (f := SV.frz H id) (fun _ _ h => SV.unfrz h1 h) h3⟩
 | clo f l => obtain ⟨arr, h2, h3⟩ := h; exact ⟨arr, h2, All2.unmap (f := SV.frz H id) (fun _ _ h => SV.unfrz h1 h) h3⟩
 | unk => exact h
def frzV (view : List (Nat × AV)) (H : Heap) (id : Nat) : List (Nat × AV) := view.map fun x => (x.1, x.2.frz H id)
def frzHp (H : Heap) (id : Nat) : Heap := (H.map fun b => b.map (Blk.frz H id)).set id none
theorem Stp.frz (id : Nat) {view : List (Nat × AV)} {o : Oper} {e : Option (Nat × AV)} (hid : isArr H id = true) (h : Stp P n w0 E0 ops Q o (frzV view H id) (frzHp H id) e H') (hn : H'[id]? = some none) : Stp P n w0 E0 ops Q o view H e H' := by
 intro sl hle a w hs
 have hs' : SRel n w0 E0 ⟨frzV sl H id, frzHp H id⟩ a w := Gh.frz id (s := ⟨sl, H⟩) hid a w hs
 have hle' : Le (frzV view H id) (frzV sl H id) := by
  intro k v hv
  simp only [frzV, look_map] at hv ⊢
  obtain ⟨u, h1, rfl⟩ := Option.map_eq_some_iff.1 hv
  rw [hle k u h1, Option.map_some]
 have next : ∀ a' w', (∃ s', SRel n w0 E0 s' a' w' ∧ s' = ⟨putE e (frzV sl H id), H'⟩) → ∃ s', SRel n w0 E0 s' a' w' ∧ s' = ⟨putE e sl, H'⟩ := by
  rintro a' w' ⟨s', h1, h2⟩
  subst h2
  refine ⟨⟨putE e sl, H'⟩, ⟨h1.size, h1.defers, h1.apart, ?_⟩, rfl⟩
  obtain ⟨E, μ, m1, m2, m3⟩ := h1.mem
  refine ⟨E, μ, m1, m2, fun k v hv => ?_⟩
  have old : ∀ k v, look sl k = some v → look (frzV sl H id) k = some (v.frz H id) := fun k v hv => by simp only [frzV, look_map, hv, Option.map_some]
  cases e with
  | none =>
   obtain ⟨y, h3, h4⟩ := m3 k _ (old k v hv)
   exact ⟨y, h3, AV.unfrz hn h4⟩
  | some x =>
   obtain ⟨j, u⟩ := x
   simp only [putE, look] at hv
   cases hb : Nat.beq j k with
   | true =>
    rw [hb] at hv
    exact m3 k v (by simp only [putE, look, hb]; exact hv)
   | false =>
    rw [hb] at hv
    obtain ⟨y, h3, h4⟩ := m3 k (v.frz H id) (by simp only [putE, look, hb]; exact old k v hv)
    exact ⟨y, h3, AV.unfrz hn h4⟩
 have hvo := h _ hle' a w hs'
 unfold wpList at hvo ⊢
 by_cases hwt : Region.wanted o (yielded ops a.tmps) = true
 ·rw [if_pos hwt] at hvo ⊢
  rcases hvo with hvo | ⟨hvo1, a1, w1, s1, h1, h2⟩
  ·refine .inl (Oper.wp_mono (fun a' w' hh => next a' w' hh) (wp_swap ?_ hvo))
   rintro e a' w' hne ⟨s1, h1, h2⟩
   refine ⟨s1, h1, ?_⟩
   cases e with
   | normal => exact absurd rfl hne
   | exit id => exact h2
   | goto l => exact h2
   | ret => exact h2
   | panic c => exact h2
   | outgrown => exact h2
  ·exact .inr ⟨hvo1, a1, w1, s1, h1, h2⟩
 ·rw [if_neg hwt] at hvo ⊢
  exact next _ _ hvo
end
end Go.Proofs.YtpaagnjoniiemaaGreat.Vc
namespace Go.Proofs.YtpaagnjoniiemaaGreat.Vc
open Go Go.RowKit
set_option linter.unusedVariables false
set_option linter.unusedSimpArgs false
section
variable {P : Program} {T : Tab} {n : Nat} {w0 : World} {E0 : Env0} {s s' s'' : St} {ops : Array Oper} {Q : Exit → St → Prop} {rest : List Oper} {sl sl' view : List (Nat × AV)} {H H' : Heap}
variable {w w' : World} {E E' : Env} {μ μ' : Nat → Value}
theorem sRh (hT : TabOk P T) (keep π : List Nat) (sl : List (Nat × AV)) {id : Nat} {y : Code} {φ : Prop} (hφ : φ) (k : VW P n w0 E0 y Q ⟨sl, s.H⟩) (h : evk T n ops .dp ops.toList.length ops.toList keep π s = some (φ, ⟨sl, s.H⟩) := by kernel_rfl) :
  VW P n w0 E0 (.seq (.region id ops false) y) Q s := VW.seqRg hT .dp keep π h hφ k
theorem sGh (hT : TabOk P T) (j : Nat) (keep π : List Nat) (sl : List (Nat × AV)) {φ : Prop} (hφ : φ) (k : VO P n w0 E0 ops Q (rest.drop j) ⟨sl, s.H⟩) (h : evk T n ops .dp j rest keep π s = some (φ, ⟨sl, s.H⟩) := by kernel_rfl) :
  VO P n w0 E0 ops Q rest s := VO.seg hT .dp j keep π h hφ k
end
abbrev lv (t : Ty) (x : t.den) : List Lf := leafs t x .fz
abbrev zi (n : Int) : Lf := .v (.int .i64) n
abbrev zb (b : Bool) : Lf := .v .bool b
abbrev zs (b : ByteArray) : Lf := .v .str b
abbrev wr (n : Int) : Int := IntKind.i64.wrap n
end Go.Proofs.YtpaagnjoniiemaaGreat.Vc
namespace Go.Proofs.YtpaagnjoniiemaaGreat.Vc
open Go Go.RowKit
set_option linter.unusedVariables false
def nx (T : Tab) (n : Nat) (ops : Array Oper) (l : List Oper) (s : St) : St := match evs T n ops .dp l s with
 | some (_, s') => s'
 | none => s
def nf (T : Tab) (n : Nat) (ops : Array Oper) (l : List Oper) (s : St) : Option Prop := match evs T n ops .dp l s with
 | some (φ, _) => some φ
 | none => none
inductive DSp where
 | cl (fr : List Nat) (d : Option Nat) (rs : List RC)
 | lit (b : Bool)
 | ev (fr : List Nat)
def lookS : List (Nat × DSp) → Nat → Option DSp
 | [], _ => none
 | (j, v) :: l, k => cond (Nat.beq j k) (some v) (lookS l k)
def frs : List Nat → St → St
 | [], s => s
 | i :: l, s => frs l ⟨frzV s.sl s.H i, frzHp s.H i⟩
def evRG (T : Tab) (n : Nat) (m : Md) (ops : Array Oper) (s : St) (o : Oper) : Option (Prop × Option (Nat × AV) × Heap) :=
 match o.guard with
 | none => evR T n m s o
 | some (j, want) => match ops[j]? with
  | some g => match g.dst with
   | some d => match opnd s.sl (.tmp d) with
    | some (.lf (.v .bool b)) => cond (b == want) (evR T n m s { o with guard := none }) (match o.dst with
     | some e => cond (Nat.blt e n) (some (True, some (e, .unk), s.H)) none
     | none => none)
    | some .unk => match o.dst with
     | some e => cond (Nat.blt e n) (some (True, some (e, .unk), s.H)) none
     | none => none
    | _ => none
   | none => none
  | none => none
structure DT where
 es : List (Option (Nat × AV))
 Hs : List Heap
 fs : List Prop
def evSp (T : Tab) (n : Nat) (ops : Array Oper) (s : St) (o : Oper) : Option DSp → Option (Prop × Option (Nat × AV) × Heap)
 | none => evRG T n .dp ops s o
 | some (.cl fr d rs) => some (True, d.map fun d => (d, resA (frs fr s).H.length rs), (frs fr s).H ++ ownsC rs)
 | some (.lit b) => some (True, o.dst.map fun d => (d, .lf (.v .bool b)), s.H)
 | some (.ev fr) => match evR T n .dp (frs fr s) { o with guard := none } with
  | some (_, e, H') => some (True, e, H')
  | none => none
def dRun (T : Tab) (n : Nat) (ops : Array Oper) (ns : List Nat) (sp : List (Nat × DSp)) (sl : List (Nat × AV)) : Nat → List Oper → List (Option (Nat × AV)) → Heap → DT
 | _, [], _, H => ⟨[], [H], []⟩
 | i, o :: l, es, H => match evSp T n ops ⟨es.filterMap id ++ sl, H⟩ o (lookS sp i) with
  | some (φ, e, H') => cond (memN i ns)
    ⟨e :: (dRun T n ops ns sp sl (i + 1) l (es ++ [e]) H').es, H :: (dRun T n ops ns sp sl (i + 1) l (es ++ [e]) H').Hs, φ :: (dRun T n ops ns sp sl (i + 1) l (es ++ [e]) H').fs⟩
    ⟨e :: (dRun T n ops ns sp sl (i + 1) l (es ++ [e]) H).es, (dRun T n ops ns sp sl (i + 1) l (es ++ [e]) H).Hs, φ :: (dRun T n ops ns sp sl (i + 1) l (es ++ [e]) H).fs⟩
  | none => ⟨[], [H], []⟩
def dD (T : Tab) (n : Nat) (ops : Array Oper) (ns : List Nat) (sp : List (Nat × DSp)) (s : St) : DT := dRun T n ops ns sp s.sl 0 ops.toList [] s.H
def AllT : List Prop → Prop
 | [] => True
 | p :: l => p ∧ AllT l
def dL (ops : Array Oper) (ns : List Nat) : List (Nat × Nat) :=
 (List.range ops.size).flatMap fun i => ((List.range (ns.length + 1)).filter fun q => okq ops ns i q).map fun q => (i, q)
def isSp (sp : List (Nat × DSp)) (x : Nat × Nat) : Bool := (lookS sp x.1).isSome
def dLhs (T : Tab) (n : Nat) (ops : Array Oper) (sl : List (Nat × AV)) (D : DT) (x : Nat × Nat) : Option (Prop × Option (Nat × AV) × Heap) := match ops[x.1]? with
 | some o => evRG T n .dp ops ⟨vw ops D.es sl x.1, (D.Hs[x.2]?).getD []⟩ o
 | none => none
def dRhs (ns : List Nat) (D : DT) (x : Nat × Nat) : Option (Prop × Option (Nat × AV) × Heap) :=
 some ((D.fs[x.1]?).getD True, (D.es[x.1]?).getD none, (D.Hs[cond (memN x.1 ns) (x.2 + 1) x.2]?).getD [])
def dOut (T : Tab) (n : Nat) (ops : Array Oper) (ns : List Nat) (sp : List (Nat × DSp)) (keep π : List Nat) (s : St) : St :=
 (⟨fin ops (dD T n ops ns sp s).es s.sl, ((dD T n ops ns sp s).Hs[ns.length]?).getD []⟩ : St).ren keep π
section
variable {P : Program} {T : Tab} {n : Nat} {w0 : World} {E0 : Env0} {s s' s'' : St} {ops : Array Oper} {Q : Exit → St → Prop} {rest : List Oper} {sl view : List (Nat × AV)} {H H' : Heap}
theorem nf_some {l : List Oper} {φ : Prop} (h : nf T n ops l s = some φ) : evs T n ops .dp l s = some (φ, nx T n ops l s) := by
 unfold nf at h
 unfold nx
 split at h
 ·rename_i e
  simp only [Option.some.injEq] at h
  subst h
  rw [e]
 ·simp at h
theorem nN (hT : TabOk P T) {φ : Prop} (hφ : φ) (k : Q .normal (nx T n ops rest s)) (h : nf T n ops rest s = some φ := by kernel_rfl) : VO P n w0 E0 ops Q rest s := by
 have h1 : VO P n w0 E0 ops Q [] (nx T n ops rest s) := VO.nil k
 have := evs_run (rest := []) hT (nf_some h) hφ h1
 rwa [List.append_nil] at this
theorem nG (hT : TabOk P T) (j : Nat) {φ : Prop} (hφ : φ) (k : VO P n w0 E0 ops Q (rest.drop j) (nx T n ops (rest.take j) s)) (h : nf T n ops (rest.take j) s = some φ := by kernel_rfl) : VO P n w0 E0 ops Q rest s := by
 have := evs_run hT (nf_some h) hφ k
 rwa [List.take_append_drop] at this
theorem nR (hT : TabOk P T) {id : Nat} {y : Code} {φ : Prop} (hφ : φ) (k : VW P n w0 E0 y Q (nx T n ops ops.toList s)) (h : nf T n ops ops.toList s = some φ := by kernel_rfl) : VW P n w0 E0 (.seq (.region id ops false) y) Q s :=
 VW.seqVO (nN hT hφ k h)
theorem nE (hT : TabOk P T) {id : Nat} {φ : Prop} (hφ : φ) (k : Q .normal (nx T n ops ops.toList s)) (h : nf T n ops ops.toList s = some φ := by kernel_rfl) : VW P n w0 E0 (.region id ops false) Q s :=
 VW.region (nN hT hφ k h)
theorem Stp.evG {o : Oper} {φ : Prop} {e : Option (Nat × AV)} (hT : TabOk P T) (h : evRG T n .dp ops ⟨view, H⟩ o = some (φ, e, H')) (hφ : φ) : Stp P n w0 E0 ops Q o view H e H' := by
 unfold evRG at h
 split at h
 ·exact Stp.ev hT h hφ
 ·rename_i j want hg
  split at h
  ·rename_i g hj
   split at h
   ·rename_i d hd
    split at h
    ·rename_i b hb
     cases hw : b == want with
     | true => rw [hw] at h; exact Stp.on hg hj hd hb (by simpa using hw) (Stp.ev hT h hφ)
     | false =>
      rw [hw] at h
      simp only [cond_false] at h
      split at h
      ·rename_i e' he
       cases hn : Nat.blt e' n with
       | false => rw [hn] at h; simp at h
       | true =>
        rw [hn] at h
        simp only [cond_true, Option.some.injEq, Prod.mk.injEq] at h
        obtain ⟨_, rfl, rfl⟩ := h
        exact Stp.off hg hj hd hb (by simpa using hw) he (by simpa [Nat.blt_eq] using hn)
      ·simp at h
    ·rename_i hb
     split at h
     ·rename_i e' he
      cases hn : Nat.blt e' n with
      | false => rw [hn] at h; simp at h
      | true =>
       rw [hn] at h
       simp only [cond_true, Option.some.injEq, Prod.mk.injEq] at h
       obtain ⟨_, rfl, rfl⟩ := h
       exact Stp.off2 hg hj hd hb he (by simpa [Nat.blt_eq] using hn)
     ·simp at h
    ·simp at h
   ·simp at h
  ·simp at h
theorem AllP.of {α : Type} {f : α → Prop} : ∀ {l : List α}, (∀ x ∈ l, f x) → AllP f l
 | [], _ => trivial
 | y :: l, h => ⟨h y List.mem_cons_self, AllP.of fun x hx => h x (List.mem_cons_of_mem _ hx)⟩
theorem AllT.get : ∀ {l : List Prop} (i : Nat), AllT l → (l[i]?).getD True
 | [], i, _ => by simp
 | p :: l, 0, h => by simpa using h.1
 | p :: l, i + 1, h => by simpa using AllT.get i h.2
theorem dr (hT : TabOk P T) (sp : List (Nat × DSp)) (L : List (Nat × Nat)) (ns keep π : List Nat) {id : Nat} {φ : Prop} (hφ : φ) (hsp : AllP (StpAt P n w0 E0 ops Q s.sl (dD T n ops ns sp s).es ns (dD T n ops ns sp s).Hs) L)
  (k : Q .normal (dOut T n ops ns sp keep π s)) (hL : (dL ops ns).filter (isSp sp) = L := by kernel_rfl) (hm : P.follows .mixedOrders = true := by kernel_rfl) (h1 : AllT (dD T n ops ns sp s).fs = φ := by kernel_rfl)
  (hok : (drawOk ops (dD T n ops ns sp s).es ns (dL ops ns) && nodup π) = true := by kernel_rfl) (h0 : ((dD T n ops ns sp s).Hs[0]?).getD [] = s.H := by kernel_rfl)
  (h2 : ((dL ops ns).filter fun x => !isSp sp x).map (dLhs T n ops s.sl (dD T n ops ns sp s)) = ((dL ops ns).filter fun x => !isSp sp x).map (dRhs ns (dD T n ops ns sp s)) := by kernel_rfl) : VW P n w0 E0 (.region id ops true) Q s := by
 obtain ⟨hd, hn⟩ := Bool.and_eq_true_iff.1 hok
 refine VW.drawn hm _ ns _ (dL ops ns) keep π hd h0 (AllP.of fun x hx => ?_) (s' := dOut T n ops ns sp keep π s) (by rw [hn]; rfl) k
 cases hs : isSp sp x with
 | true => exact AllP.mem hsp x (hL ▸ List.mem_filter.2 ⟨hx, hs⟩)
 | false =>
  have h3 := List.map_inj_left.1 h2 x (List.mem_filter.2 ⟨hx, by rw [hs]; rfl⟩)
  unfold dLhs dRhs at h3
  split at h3
  ·rename_i o ho
   exact ⟨o, ho, Stp.evG hT h3 (AllT.get x.1 (h1 ▸ hφ))⟩
  ·simp at h3
def gOn (ops : Array Oper) (sl : List (Nat × AV)) (o : Oper) : Bool := match o.guard with
 | none => true
 | some (j, want) => match ops[j]? with
  | some g => match g.dst with
   | some d => match opnd sl (.tmp d) with
    | some (.lf (.v .bool b)) => b == want
    | _ => false
   | none => false
  | none => false
theorem Stp.gon {o : Oper} {e : Option (Nat × AV)} (hg : gOn ops view o = true) (h : Stp P n w0 E0 ops Q { o with guard := none } view H e H') : Stp P n w0 E0 ops Q o view H e H' := by
 unfold gOn at hg
 split at hg
 ·rename_i h1
  have : ({ o with guard := none } : Oper) = o := by rw [← h1]
  rwa [this] at h
 ·rename_i j want h1
  split at hg
  ·rename_i g hj
   split at hg
   ·rename_i d hd
    split at hg
    ·rename_i b hb
     exact Stp.on h1 hj hd hb (by simpa using hg) h
    ·simp at hg
   ·simp at hg
  ·simp at hg
def noneAt (H : Heap) (i : Nat) : Bool := match H[i]? with
 | some none => true
 | _ => false
def frOk : List Nat → St → Heap → Bool
 | [], _, _ => true
 | i :: l, s, H' => isArr s.H i && noneAt H' i && frOk l ⟨frzV s.sl s.H i, frzHp s.H i⟩ H'
theorem Stp.frs {o : Oper} {e : Option (Nat × AV)} : ∀ (fr : List Nat) {s : St}, frOk fr s H' = true → Stp P n w0 E0 ops Q o (Vc.frs fr s).sl (Vc.frs fr s).H e H' → Stp P n w0 E0 ops Q o s.sl s.H e H'
 | [], _, _, h => h
 | i :: l, s, hk, h => by
  simp only [frOk, Bool.and_eq_true] at hk
  refine Stp.frz i hk.1.1 (Stp.frs l hk.2 h) ?_
  have := hk.1.2
  unfold noneAt at this
  split at this
  ·assumption
  ·simp at this
theorem qC {es : List (Option (Nat × AV))} {ns : List Nat} {Hs : List Heap} {x : Nat × Nat} {o : Oper} (br : Bool) (tys cts : List PT) (fr : List Nat) (d : Option Nat) {f : FuncId} {ps : List AV} {rs : List RC} (hT : TabOk P T) (hc : Con P f ps rs)
  (ho : ops[x.1]? = some o := by rfl) (hg : gOn ops (vw ops es sl x.1) o = true := by kernel_rfl) (h : evArgs br tys cts n (frs fr ⟨vw ops es sl x.1, (Hs[x.2]?).getD []⟩) { o with guard := none } = some (d, f, ps) := by kernel_rfl) (hsel : (cond br (selfish rs) true) = true := by rfl)
  (h1 : (d.map fun d => (d, resA (frs fr ⟨vw ops es sl x.1, (Hs[x.2]?).getD []⟩).H.length rs)) = (es[x.1]?).getD none := by kernel_rfl) (h2 : (frs fr ⟨vw ops es sl x.1, (Hs[x.2]?).getD []⟩).H ++ ownsC rs = (Hs[cond (memN x.1 ns) (x.2 + 1) x.2]?).getD [] := by kernel_rfl)
  (h3 : frOk fr ⟨vw ops es sl x.1, (Hs[x.2]?).getD []⟩ ((Hs[cond (memN x.1 ns) (x.2 + 1) x.2]?).getD []) = true := by kernel_rfl) (ht : Tabs P w0 E0.toEnv := by assumption) : StpAt P n w0 E0 ops Q sl es ns Hs x :=
 ⟨o, ho, Stp.gon hg (Stp.frs fr h3 (Stp.eq (Stp.call br tys cts hT h hc hsel) h1 h2))⟩
theorem qE {es : List (Option (Nat × AV))} {ns : List Nat} {Hs : List Heap} {x : Nat × Nat} {o : Oper} (fr : List Nat) (hT : TabOk P T) {φ : Prop} (hφ : φ)
  (ho : ops[x.1]? = some o := by rfl) (hg : gOn ops (vw ops es sl x.1) o = true := by kernel_rfl) (h : evR T n .dp (frs fr ⟨vw ops es sl x.1, (Hs[x.2]?).getD []⟩) { o with guard := none } = some (φ, (es[x.1]?).getD none, (Hs[cond (memN x.1 ns) (x.2 + 1) x.2]?).getD []) := by kernel_rfl)
  (h3 : frOk fr ⟨vw ops es sl x.1, (Hs[x.2]?).getD []⟩ ((Hs[cond (memN x.1 ns) (x.2 + 1) x.2]?).getD []) = true := by kernel_rfl) : StpAt P n w0 E0 ops Q sl es ns Hs x :=
 ⟨o, ho, Stp.gon hg (Stp.frs fr h3 (Stp.ev hT h hφ))⟩
theorem qB {es : List (Option (Nat × AV))} {ns : List Nat} {Hs : List Heap} {x : Nat × Nat} {o : Oper} (d : Nat) {b c : Bool} (hb : b = c) (hT : TabOk P T) {φ : Prop} (hφ : φ)
  (ho : ops[x.1]? = some o := by rfl) (h : evRG T n .dp ops ⟨vw ops es sl x.1, (Hs[x.2]?).getD []⟩ o = some (φ, some (d, .lf (.v .bool b)), (Hs[x.2]?).getD []) := by kernel_rfl)
  (h1 : some (d, AV.lf (.v .bool c)) = (es[x.1]?).getD none := by kernel_rfl) (h2 : (Hs[x.2]?).getD [] = (Hs[cond (memN x.1 ns) (x.2 + 1) x.2]?).getD [] := by kernel_rfl) : StpAt P n w0 E0 ops Q sl es ns Hs x :=
 ⟨o, ho, Stp.eq (Stp.lit (Stp.evG hT h hφ) hb) h1 h2⟩
theorem VW.fin {c : Code} (h : VW P n w0 E0 c (thenQ (fun s => ∃ s', Gh n w0 E0 s s' ∧ Q .normal s') Q) s) : VW P n w0 E0 c Q s := by
 intro a w hs
 refine wp_mono (h a w hs) fun e a' w' he => ?_
 obtain ⟨s1, h1, h2⟩ := he
 cases e with
 | normal => obtain ⟨s2, h3, h4⟩ := h2; exact ⟨s2, h3 a' w' h1, h4⟩
 | _ => exact ⟨s1, h1, h2⟩
theorem arM {R : St → Prop} (l : List G) (h : R (Vc.ghs l s)) : ∃ s', Gh n w0 E0 s s' ∧ R s' := arrive l rfl h
def stC (d : Option Nat) (rs : List RC) (s : St) : St := ⟨putA d (resA s.H.length rs) s.sl, s.H ++ ownsC rs⟩
def stB (d : Nat) (b : Bool) (s : St) : St := ⟨(d, .lf (.v .bool b)) :: s.sl, s.H⟩
theorem clc (br : Bool) (tys cts : List PT) {o : Oper} (d : Option Nat) {f : FuncId} {ps : List AV} {rs : List RC} (hT : TabOk P T) (hc : Con P f ps rs)
  (k : VO P n w0 E0 ops Q rest (stC d rs s)) (h : evArgs br tys cts n s o = some (d, f, ps) := by kernel_rfl) (hsel : (cond br (selfish rs) true) = true := by rfl) (ht : Tabs P w0 E0.toEnv := by assumption) :
  VO P n w0 E0 ops Q (o :: rest) s := VO.call br tys cts hT h hc hsel k
theorem spC (d : Nat) {b : Bool} {α : Type} {u v : Option α} {r : α} (h : cond b u v = some r) (h1 : u = some r → VO P n w0 E0 ops Q rest (stB d true s)) (h2 : v = some r → VO P n w0 E0 ops Q rest (stB d false s))
  (hb : look s.sl d = some (.lf (.v .bool b)) := by kernel_rfl) : VO P n w0 E0 ops Q rest s :=
 VO.splitB d hb (fun e => h1 (cond_t h e)) (fun e => h2 (cond_f h e))
theorem sq {x y : Code} (h : VW P n w0 E0 x (thenQ (VW P n w0 E0 y Q) Q) s) : VW P n w0 E0 (.seq x y) Q s := VW.seq h
end
theorem gS {α : Type} {φ : Prop} [Decidable φ] {x : Option α} {r : α} (h : gd φ x = some r) : φ ∧ x = some r := gd_some h
theorem aS {α β : Type} {x : Option α} {k : α → Option β} {r : β} (h : andO x k = some r) : ∃ a, x = some a ∧ k a = some r := andO_some h
abbrev hh (i : Nat) : AV := .lf (.hd i 0 none)
abbrev Vv (t : Ty) (x : t.den) : AV := .lf (.v t x)
end Go.Proofs.YtpaagnjoniiemaaGreat.Vc
