/- A calculus of values over the model: what a walk keeps as plain values, and the rules for the forms of code. It speaks of any program. -/
import Derived.Test.YtjbahkjjgciooaaXb
namespace Go.Proofs.Ytjbahkjjgciooaa.Vc
open Go Go.RowKit Go.Lib
set_option linter.unusedVariables false
set_option linter.unusedSimpArgs false
section
variable {P : Program} {T : Tab} {n : Nat} {w0 : World} {E0 : Env0} {s s' : St} {ops : Array Oper} {Q : Exit → St → Prop} {rest : List Oper}
variable {w w' : World} {E E' : Env} {μ μ' : Nat → Value} {H H' : Heap}
theorem append_run_s {t u elem : TypeId} {info : TypeInfo} {z : Value} (ht : P.underlying t = some (.slice elem)) (hu : P.underlying u = some .string) (hi : P.info? elem = some info) (hz : info.zero = some z) (hsz : info.size = 1) (hzs : z.cells.size = 1) (rt : TypeId) (s : ByteArray) :
  AppRun P w t u rt elem info.bytes 1 (.string s) s.size (strCells s) := by
 intro ty base sLen sCap olds hlo hcap hbase hfit hsm
 have hl := strCells_length s
 by_cases hm0 : s.size = 0
 ·refine ⟨.slice base sLen sCap, w, ?_, .inl ⟨hm0, rfl, rfl⟩⟩
  have hf := run_firstCells_string (P := P) w 1 s
  have he : strCells s = [] := List.length_eq_zero_iff.1 (by rw [hl]; exact hm0)
  rw [he, hm0] at hf
  cases base with
  | none => simp [Builtin.append_, run_underlying ht, run_underlying hu, sizeOf, typeInfo, hi, hsz, Builtin.lenOf, hcap, hm0, hf]
  | some b => simp [Builtin.append_, run_underlying ht, run_underlying hu, sizeOf, typeInfo, hi, hsz, Builtin.lenOf, hcap, hm0, hf, storeCells]
 ·by_cases hroom : sLen + s.size ≤ sCap
  ·rcases hbase with ⟨h0, _⟩ | ⟨g, cur, rfl, hg, hcur, ho⟩
   ·omega
   ·have hst := run_storeCells_at P g sLen ty (strCells s) 0 cur w hg (by omega) (strCells_oneCell s)
    simp only [Nat.add_zero, hl] at hst
    have hf := run_firstCells_string (P := P) w 1 s
    refine ⟨.slice (some ⟨g, 0, none⟩) (sLen + s.size) sCap, _, ?_, .inr (.inl ⟨by omega, g, cur, rfl, hg, hcur, hroom, rfl, rfl⟩)⟩
    simp [Builtin.append_, run_underlying ht, run_underlying hu, sizeOf, typeInfo, hi, hsz, Builtin.lenOf, hroom, hf, Addr.add_lit, hst, hl]
  ·have hcaple : sLen + s.size ≤ grownCap w (sLen + s.size) sCap elem := by
    have : sLen + s.size ≤ maxLen := by unfold maxLen; omega
    simp [grownCap, Question.cut]
   have hfit2 : Builtin.nextslicecap (sLen + s.size) sCap * info.bytes ≤ 281474976710656 := growslice_fits (by omega) hfit
   rcases hbase with ⟨h0, rfl⟩ | ⟨g, cur, rfl, hg, hcur, ho⟩
   ·have hs0 : sLen = 0 := by omega
    subst h0 hs0
    simp only [Nat.zero_add] at hcaple hfit2
    cases base with
    | none =>
     have := run_append_nil_string (P := P) (w := w) t u rt elem info z ht hu hi hz s (by omega) (by omega) (by rw [Nat.zero_add] at hfit; omega)
     refine ⟨_, _, this, .inr (.inr ⟨by omega, grownCap w s.size 0 elem, _, by simpa using hcaple, by simp, rfl, ?_, Builtin.zeroCells z.cells (grownCap w s.size 0 elem - s.size) |>.toList, by simp [strCells]⟩)⟩
     simp only [Array.size_append, Array.size_map, size_zeroCells, hzs, Nat.mul_one]
     show s.size + _ = _
     omega
    | some b0 =>
     have := run_append_grow_string (P := P) w t u rt elem info z ht hu hi hz b0 0 0 [] (by simp) (by simp) s (by omega) (by omega) (by simpa using hfit2)
     simp only [Nat.zero_add] at this
     refine ⟨_, _, this, .inr (.inr ⟨by omega, grownCap w s.size 0 elem, _, by simpa using hcaple, by simp, rfl, ?_, Builtin.zeroCells z.cells (grownCap w s.size 0 elem - s.size) |>.toList, by simp⟩)⟩
     simp only [Array.size_append, List.size_toArray, hl, size_zeroCells, hzs, List.length_nil, Nat.mul_one]
     omega
   ·have := run_append_grow_string (P := P) w t u rt elem info z ht hu hi hz ⟨g, 0, none⟩ sLen sCap olds (by rw [hsz]; exact hlo) ho s (by omega) (by omega) hfit2
    refine ⟨_, _, this, .inr (.inr ⟨by omega, grownCap w (sLen + s.size) sCap elem, _, hcaple, rfl, rfl, ?_, Builtin.zeroCells z.cells (grownCap w (sLen + s.size) sCap elem - (sLen + s.size)) |>.toList, by simp⟩)⟩
    simp only [Array.size_append, List.size_toArray, hl, hlo, size_zeroCells, hzs, Nat.mul_one]
    omega
def evAppS (T : Tab) (n : Nat) (s : St) (o : Oper) : Option (Nat × Prop × AV × Heap) :=
 match o.guard, o.dst, o.op with
 | none, some d, .call { callee := .builtin .append, args, argTypes } => cond (Nat.blt d n) (match args.toList, argTypes.toList with
  | [x, y], [t, t'] => cond (isBytes T t && isStr T t') (match opnd s.sl x, opnd s.sl y with
   | some vx, some (.lf (.v .str ys)) => match vx with
    | .lf .nil => some (d, (ys.size ≤ lim (.int .u8)), .lf (.hd s.H.length 0 none), s.H ++ [some (.arr 0 (.int .u8) (bytesOf ys) .dp)])
    | .lf (.hd id ver none) => match s.H[id]? with
     | some (some (.arr cur (.int .u8) xs m)) => cond (Nat.beq ver cur) (some (d, (xs.length + ys.size ≤ lim (.int .u8)), .lf (.hd id (ver + 1) none), s.H.set id (some (.arr (ver + 1) (.int .u8) (xs ++ bytesOf ys) m)))) none
     | _ => none
    | _ => none
   | _, _ => none) none
  | _, _ => none) none
 | _, _, _ => none
theorem bytesOf_length (z : ByteArray) : (bytesOf z).length = z.size := by
 simp [bytesOf]
theorem isBytes_elem {t : TypeId} (h : isBytes T t = true) (hT : TabOk P T) : ∃ ti, elemTy T t = some (ti, .int .u8) := by
 unfold isBytes at h
 split at h
 ·rename_i e offs szs hi
  obtain ⟨h1, j, h2, h3⟩ := hT.slice hi rfl
  exact ⟨⟨.sl (.int .u8), e, offs, szs⟩, by simp [elemTy, hi]⟩
 ·simp at h
theorem VO.appS {o : Oper} {d : Nat} {φ : Prop} {v : AV} {H' : Heap} (hT : TabOk P T) (h : evAppS T n s o = some (d, φ, v, H')) (hφ : φ) (k : VO P n w0 E0 ops Q rest ⟨(d, v) :: s.sl, H'⟩) : VO P n w0 E0 ops Q (o :: rest) s := by
 intro a w hs
 obtain ⟨E, μ, hA⟩ := hs.at
 unfold evAppS at h
 split at h
 ·rename_i d' args argTypes hg hd ho
  cases hb : Nat.blt d' n with
  | false => rw [hb] at h; simp at h
  | true =>
   rw [hb] at h
   simp only [cond_true] at h
   have hdn : d' < n := by simpa [Nat.blt_eq] using hb
   split at h
   ·rename_i x y t t' hargs hts
    cases ht : (isBytes T t && isStr T t') with
    | false => rw [ht] at h; simp at h
    | true =>
     rw [ht] at h
     simp only [cond_true] at h
     simp only [Bool.and_eq_true] at ht
     obtain ⟨ti, he⟩ := isBytes_elem ht.1 hT
     have hu := isStr_under hT ht.2
     have ha1 : args = #[x, y] := by rw [← Array.toArray_toList (xs := args), hargs]
     have ha2 : argTypes = #[t, t'] := by rw [← Array.toArray_toList (xs := argTypes), hts]
     split at h
     ·rename_i vx ys hx hy
      have ey : a.eval y = .string ys := by
       have := hA.opnd hy
       simpa [AR, LR, Rep, at0] using this
      have hsrc : ∀ info z, P.info? ti.elem = some info → info.zero = some z → info.size = (Ty.int IntKind.u8).lv → z.cells.toList = (Ty.int IntKind.u8).zeros → ∃ news, SrcG P w E (.int .u8) (bytesOf ys) t t' o.type ti.elem info.bytes (a.eval y) news := by
       intro info z g1 hz g2 hz'
       refine ⟨strCells ys, by rw [strCells_length, bytesOf_length]; simp [Ty.lv], fun i hi => ?_, ?_⟩
       ·rw [bytesOf_length] at hi
        simp only [Rep, Ty.lv, Nat.mul_one, Nat.add_zero, strCells, bytesOf, List.getElem?_map, List.getElem_map]
        have : i < ys.data.toList.length := by simpa using hi
        rw [List.getElem?_eq_getElem this]
        rfl
       ·rw [ey, bytesOf_length]
        exact append_run_s (elemTy_under hT he).1 hu g1 hz g2 (by rw [← Array.length_toList, hz']; rfl) _ ys
      split at h
      ·simp only [Option.some.injEq, Prod.mk.injEq] at h
       obtain ⟨rfl, rfl, rfl, rfl⟩ := h
       have hxx := hA.opnd hx
       exact app_nil hT hA ho rfl ha1 ha2 hg hd hdn he hxx hsrc (by rw [bytesOf_length]; exact hφ) k
      ·rename_i id ver
       split at h
       ·rename_i cur xs m hH
        cases hc : Nat.beq ver cur with
        | false => rw [hc] at h; simp at h
        | true =>
         rw [hc] at h
         have hv := Nat.eq_of_beq_eq_true hc
         subst hv
         simp only [cond_true, Option.some.injEq, Prod.mk.injEq] at h
         obtain ⟨rfl, rfl, rfl, rfl⟩ := h
         have hxx := hA.opnd hx
         simp only [AR, LR, hH] at hxx
         have h3 := hxx.2.2 trivial
         simp only [HdR] at h3
         exact app_hd hT hA ho rfl ha1 ha2 hg hd hdn he hH h3 (.inr rfl) hsrc (by rw [bytesOf_length]; exact hφ) k
       ·simp at h
      ·simp at h
     ·simp at h
   ·simp at h
 ·simp at h
def isI64 (T : Tab) (t : TypeId) : Bool := match T t with
 | some { ty := .int .i64, .. } => true
 | _ => false
theorem zeroCells_one {z : Array Value} (hz : ∀ v ∈ z, v.oneCell' = true) (hn : 0 < z.size) (q : Nat) : ∀ v ∈ (Builtin.zeroCells z q).toList, v.oneCell' = true := by
 intro v hv
 simp only [Builtin.zeroCells, Array.toList_map, List.mem_map] at hv
 obtain ⟨i, _, rfl⟩ := hv
 have := Nat.mod_lt i hn
 rw [getElem!_pos z _ this]
 exact hz _ (Array.getElem_mem this)
theorem wrap_small {q : Nat} (h : q ≤ 140737488355328) : IntKind.i64.wrap (q : Int) = q := by
 have e : (q : Int) % 2 ^ 64 = q := Int.emod_eq_of_lt (by omega) (by omega)
 simp only [IntKind.wrap, IntKind.bits, IntKind.signed, e]
 split
 ·rename_i h1
  simp at h1
  omega
 ·rfl
theorem append_run_z {t u elem : TypeId} {info : TypeInfo} {z : Value} {e : Ty} (ht : P.underlying t = some (.slice elem)) (hu : P.underlying u = some (.int .i64)) (hi : P.info? elem = some info) (hz : info.zero = some z) (hsz : info.size = e.lv) (hzs : z.cells.toList = e.zeros) (rt : TypeId) (q : Nat) (hfq : q * info.bytes ≤ 140737488355328) (hsq : q ≤ 140737488355328) :
  AppRun P w t u rt elem info.bytes e.lv (.int .i64 q) q (Builtin.zeroCells z.cells q).toList := by
 intro ty base sLen sCap olds hlo hcap hbase hfit hsm
 have hw := wrap_small hsq
 have hpos := lv_pos e
 have hzl : z.cells.size = e.lv := by rw [← Array.length_toList, hzs, zeros_length]
 have hl : (Builtin.zeroCells z.cells q).toList.length = q * e.lv := by rw [Array.length_toList]; simp [size_zeroCells, hzl]
 have h1 : ∀ v ∈ (Builtin.zeroCells z.cells q).toList, v.oneCell' = true := zeroCells_one (fun v hv => zeros_one e v (by rw [← hzs]; exact Array.mem_toList_iff.2 hv)) (by omega) q
 have hneg : ¬ ((q : Int) < 0) := by omega
 have hbig : ¬ ((q : Int) * (info.bytes : Int) > 281474976710656) := by
  have : (q : Int) * (info.bytes : Int) = ((q * info.bytes : Nat) : Int) := by rw [Int.natCast_mul]
  omega
 by_cases hm0 : q = 0
 ·subst hm0
  refine ⟨.slice base sLen sCap, w, ?_, .inl ⟨rfl, rfl, rfl⟩⟩
  have hw' : IntKind.i64.wrap (0 : Int) = 0 := hw
  cases base with
  | none => simp [Builtin.append_, run_underlying ht, run_underlying hu, sizeOf, typeInfo, hi, hcap, asInt, asIntOf, hw']
  | some b => simp [Builtin.append_, run_underlying ht, run_underlying hu, sizeOf, typeInfo, hi, hcap, asInt, asIntOf, hw', storeCells]
 ·have hne : ¬ (q * e.lv = 0) := Nat.pos_iff_ne_zero.1 (Nat.mul_pos (by omega) hpos)
  by_cases hroom : sLen + q ≤ sCap
  ·rcases hbase with ⟨h0, _⟩ | ⟨g, cur, rfl, hg, hcur, ho⟩
   ·omega
   ·have hmul : (sLen + q) * e.lv ≤ sCap * e.lv := Nat.mul_le_mul_right _ hroom
    rw [Nat.add_mul] at hmul
    have hst := run_storeCells_at P g (sLen * e.lv) ty (Builtin.zeroCells z.cells q).toList 0 cur w hg (by omega) h1
    simp only [Nat.add_zero] at hst
    refine ⟨.slice (some ⟨g, 0, none⟩) (sLen + q) sCap, _, ?_, .inr (.inl ⟨by omega, g, cur, rfl, hg, hcur, hroom, rfl, rfl⟩)⟩
    simp [Builtin.append_, run_underlying ht, run_underlying hu, sizeOf, typeInfo, zeroValue, hi, hz, hsz, asInt, asIntOf, hw, hneg, hbig, hne, hroom, Addr.add_lit, hst]
  ·have hcaple : sLen + q ≤ grownCap w (sLen + q) sCap elem := by
    have : sLen + q ≤ maxLen := by unfold maxLen; omega
    simp [grownCap, Question.cut]
   have hfit2 : Builtin.nextslicecap (sLen + q) sCap * info.bytes ≤ 281474976710656 := growslice_fits (by omega) hfit
   have h48' : ¬ (281474976710656 < Builtin.nextslicecap (sLen + q) sCap * info.bytes) := by omega
   have h63' : ¬ (9223372036854775807 < ((sLen : Int) + (q : Int))) := by omega
   have hfo : ∃ f : Sem (Array Value), True := ⟨pure #[], trivial⟩
   have hold : (Builtin.firstCells info.size sLen (.slice base sLen sCap)).run P w.drew = .ok olds.toArray w.drew := by
    rcases hbase with ⟨h0, rfl⟩ | ⟨g, cur, rfl, hg, hcur, ho⟩
    ·have hs0 : sLen = 0 := by omega
     subst hs0
     cases base with
     | none => simp [Builtin.firstCells]
     | some b => simp [Builtin.firstCells, loadCells, loadCellsFrom]
    ·exact run_firstCells_some (P := P) w.drew info.size sLen ⟨g, 0, none⟩ sLen sCap olds (by rw [hsz]; exact hlo) (by simpa using ho)
   refine ⟨_, w.drew.alloc (.cells (olds.toArray ++ Builtin.zeroCells z.cells q ++ Builtin.zeroCells z.cells (grownCap w (sLen + q) sCap elem - (sLen + q))) elem), ?_, .inr (.inr ⟨by omega, grownCap w (sLen + q) sCap elem, _, hcaple, rfl, rfl, ?_, (Builtin.zeroCells z.cells (grownCap w (sLen + q) sCap elem - (sLen + q))).toList, by simp⟩)⟩
   ·simp [Builtin.append_, run_underlying ht, run_underlying hu, sizeOf, typeInfo, zeroValue, hi, hz, hsz, asInt, asIntOf, hw, hneg, hbig, hne, hroom, h63', h48', Question.forced, newRow, grownCap]
    rw [hsz] at hold
    simp [hold]
   ·rw [Array.length_toList] at hl
    simp only [Array.size_append, List.size_toArray, hl, hlo, size_zeroCells, hzl]
    rw [← Nat.add_mul, ← Nat.add_mul]
    congr 1
    omega
def evAppZ (T : Tab) (n : Nat) (s : St) (o : Oper) : Option (Nat × Prop × AV × Heap) :=
 match o.guard, o.dst, o.op with
 | none, some d, .call { callee := .builtin .append, args, argTypes } => cond (Nat.blt d n) (match args.toList, argTypes.toList with
  | [x, y], [t, t'] => cond (isI64 T t') (match elemTy T t, opnd s.sl x, opnd s.sl y with
   | some (_, e), some (.lf .nil), some (.lf (.v (.int .i64) q)) => some (d, (0 ≤ q ∧ q ≤ (lim e : Int)), .lf (.hd s.H.length 0 none), s.H ++ [some (.arr 0 e (List.replicate q.toNat e.dflt) (mdOf e))])
   | _, _, _ => none) none
  | _, _ => none) none
 | _, _, _ => none
theorem VO.appZ {o : Oper} {d : Nat} {φ : Prop} {v : AV} {H' : Heap} (hT : TabOk P T) (h : evAppZ T n s o = some (d, φ, v, H')) (hφ : φ) (k : VO P n w0 E0 ops Q rest ⟨(d, v) :: s.sl, H'⟩) : VO P n w0 E0 ops Q (o :: rest) s := by
 intro a w hs
 obtain ⟨E, μ, hA⟩ := hs.at
 unfold evAppZ at h
 split at h
 ·rename_i d' args argTypes hg hd ho
  cases hb : Nat.blt d' n with
  | false => rw [hb] at h; simp at h
  | true =>
   rw [hb] at h
   simp only [cond_true] at h
   have hdn : d' < n := by simpa [Nat.blt_eq] using hb
   split at h
   ·rename_i x y t t' hargs hts
    cases ht : isI64 T t' with
    | false => rw [ht] at h; simp at h
    | true =>
     rw [ht] at h
     simp only [cond_true] at h
     have hu : P.underlying t' = some (.int .i64) := by
      unfold isI64 at ht
      split at ht
      ·rename_i hi
       exact (hT _ _ hi).under
      ·simp at ht
     have ha1 : args = #[x, y] := by rw [← Array.toArray_toList (xs := args), hargs]
     have ha2 : argTypes = #[t, t'] := by rw [← Array.toArray_toList (xs := argTypes), hts]
     split at h
     ·rename_i ti e q he hx hy
      simp only [Option.some.injEq, Prod.mk.injEq] at h
      obtain ⟨rfl, rfl, rfl, rfl⟩ := h
      have hq0 : (0 : Int) ≤ q := hφ.1
      have hq1 : Int.toNat q ≤ lim e := Int.toNat_le.2 hφ.2
      have ey : a.eval y = .int .i64 q := by
       have := hA.opnd hy
       simpa [AR, LR, Rep, at0] using this
      have hqe : ((q.toNat : Nat) : Int) = q := Int.toNat_of_nonneg hq0
      have hxx := hA.opnd hx
      have hlim0 : lim e ≤ 140737488355328 := Nat.div_le_self _ _
      refine app_nil hT hA ho rfl ha1 ha2 hg hd hdn he hxx (ys := List.replicate q.toNat e.dflt) (fun info z g1 hz g2 hz' => ?_) (by rw [List.length_replicate]; exact hq1) k
      obtain ⟨f1, ej, f2, f3⟩ := elemTy_under hT he
      obtain ⟨info', g1', g2', g3', _, g5, g6⟩ := (hT _ _ f2).info
      rw [g1] at g1'
      simp only [Option.some.injEq] at g1'
      subst g1'
      rw [f3] at g6
      have hfit : q.toNat * info.bytes ≤ 140737488355328 := by
       have a1 : q.toNat ≤ lim e := hq1
       have a2 : lim e * (24 * e.lv) ≤ 140737488355328 := Nat.div_mul_le_self _ _
       have a3 : q.toNat * info.bytes ≤ lim e * (24 * e.lv) := Nat.mul_le_mul a1 (by omega)
       omega
      refine ⟨(Builtin.zeroCells z.cells q.toNat).toList, by rw [Array.length_toList, List.length_replicate, size_zeroCells, show z.cells.size = e.lv by rw [← Array.length_toList, hz', zeros_length]], fun i hi => ?_, ?_⟩
      ·rw [List.length_replicate] at hi
       simp only [List.getElem_replicate]
       refine rep_zeros e _ _ (fun j v hv => ?_)
       have hj : j < e.lv := by rw [← zeros_length e]; exact (List.getElem?_eq_some_iff.1 hv).1
       rw [zeroCells_at hz' hi hj]
       exact hv
      ·rw [ey, List.length_replicate, ← hqe]
       simp only [Int.toNat_natCast]
       exact append_run_z f1 hu g1 hz g2 hz' _ _ hfit (Nat.le_trans hq1 hlim0)
     ·simp at h
   ·simp at h
 ·simp at h
def evCapN (T : Tab) (n : Nat) (s : St) (o : Oper) : Option (Nat × AV) :=
 match o.guard, o.dst, o.op with
 | none, some d, .call { callee := .builtin .cap, args, argTypes } => cond (Nat.blt d n) (match args.toList, argTypes.toList with
  | [x], [t] => match elemTy T t, opnd s.sl x with
   | some _, some (.lf .nil) => some (d, .lf (.v (.int .i64) (0 : Int)))
   | _, _ => none
  | _, _ => none) none
 | _, _, _ => none
theorem VO.capN {o : Oper} {d : Nat} {v : AV} (hT : TabOk P T) (h : evCapN T n s o = some (d, v)) (k : VO P n w0 E0 ops Q rest ⟨(d, v) :: s.sl, s.H⟩) : VO P n w0 E0 ops Q (o :: rest) s := by
 intro a w hs
 obtain ⟨E, μ, hA⟩ := hs.at
 unfold evCapN at h
 split at h
 ·rename_i d' args argTypes hg hd ho
  cases hb : Nat.blt d' n with
  | false => rw [hb] at h; simp at h
  | true =>
   rw [hb] at h
   simp only [cond_true] at h
   have hdn : d' < n := by simpa [Nat.blt_eq] using hb
   split at h
   ·rename_i x t hargs hts
    split at h
    ·rename_i te he hx
     simp only [Option.some.injEq, Prod.mk.injEq] at h
     obtain ⟨rfl, rfl⟩ := h
     have ha1 : args = #[x] := by rw [← Array.toArray_toList (xs := args), hargs]
     have ha2 : argTypes = #[t] := by rw [← Array.toArray_toList (xs := argTypes), hts]
     obtain ⟨ti, e⟩ := te
     obtain ⟨f1, _⟩ := elemTy_under hT he
     obtain ⟨ad, hxx⟩ := hA.opnd hx
     refine wpList_value (y := .int .i64 0) (w' := w) hg ?_ ?_
     ·simp only [execOp, ho, resolve, ha1, ha2, Sem.run_bind, Sem.run_pure, Result.andThen_ok, invoke, builtin]
      simp only [List.map_toArray, List.map_cons, List.map_nil, hxx]
      simp [Builtin.cap_, run_underlying f1, goInt]
     ·rw [hd]
      refine k _ _ (hA.put hdn hA.mr (Ext.refl w E) (fun b hb => ⟨hb, rfl⟩) (KpH.refl μ s.H) ?_).rel
      simp [AR, LR, Rep, at0]
    ·simp at h
   ·simp at h
 ·simp at h
def evCutN (T : Tab) (n : Nat) (s : St) (o : Oper) : Option (Nat × Prop × AV) :=
 match o.guard, o.dst, o.op with
 | none, some d, .slice t x none (some hi) none => cond (Nat.blt d n) (match elemTy T t, opnd s.sl x, opnd s.sl hi with
  | some _, some (.lf .nil), some (.lf (.v (.int _) q)) => some (d, (q = (0 : Int)), .lf .nil)
  | _, _, _ => none) none
 | _, _, _ => none
theorem VO.cutN {o : Oper} {d : Nat} {φ : Prop} {v : AV} (hT : TabOk P T) (h : evCutN T n s o = some (d, φ, v)) (hφ : φ) (k : VO P n w0 E0 ops Q rest ⟨(d, v) :: s.sl, s.H⟩) : VO P n w0 E0 ops Q (o :: rest) s := by
 intro a w hs
 obtain ⟨E, μ, hA⟩ := hs.at
 unfold evCutN at h
 split at h
 ·rename_i d' t x hi hg hd ho
  cases hb : Nat.blt d' n with
  | false => rw [hb] at h; simp at h
  | true =>
   rw [hb] at h
   simp only [cond_true] at h
   have hdn : d' < n := by simpa [Nat.blt_eq] using hb
   split at h
   ·rename_i te kk q he hx hq
    simp only [Option.some.injEq, Prod.mk.injEq] at h
    obtain ⟨rfl, rfl, rfl⟩ := h
    obtain ⟨ti, e⟩ := te
    obtain ⟨f1, ej, f2, f3⟩ := elemTy_under hT he
    obtain ⟨ad, hxx⟩ := hA.opnd hx
    have hqq := hA.opnd hq
    simp only [AR, LR_int] at hqq
    subst hφ
    refine wpList_value (y := .slice ad 0 0) (w' := w) hg ?_ ?_
    ·have := slice_run (P := P) (T := T) hT f1 f2 (a := ad) (len := 0) (cap := 0) (lo := none) (hi := some (.int kk 0)) (l := 0) (h := 0) (Nat.le_refl 0) (.inl ⟨rfl, rfl⟩) (.inr ⟨kk, 0, rfl, Int.le_refl 0, rfl⟩) (Nat.le_refl 0) (Nat.le_refl 0) w
     simp only [if_true, Nat.sub_self] at this
     simp only [execOp, ho, hxx, Option.map_none, Option.map_some, hqq, Sem.run_bind, this, Result.andThen_ok, Sem.run_pure]
    ·rw [hd]
     exact k _ _ (hA.put (v := .lf .nil) (y := .slice ad 0 0) hdn hA.mr (Ext.refl w E) (fun b hb => ⟨hb, rfl⟩) (KpH.refl μ s.H) (show ∃ a', Value.slice ad 0 0 = .slice a' 0 0 from ⟨ad, rfl⟩)).rel
   ·simp at h
 ·simp at h
def evMark (T : Tab) (n : Nat) (s : St) (o : Oper) : Option (Nat × Prop × AV × Heap) :=
 match o.guard, o.dst, o.op with
 | none, some d, .convert a b x => cond (Nat.blt d n && Nat.beq a b && isBytes T a) (match opnd s.sl x with
  | some (.lf (.hd id ver none)) => match s.H[id]? with
   | some (some (.arr cur (.int .u8) xs m)) => cond (Nat.beq ver cur) (some (d, (0 < xs.length), .lf (.v (.sl (.int .u8)) xs), s.H.set id none)) none
   | _ => none
  | _ => none) none
 | _, _, _ => none
theorem freeze_at {b k : Nat} {arr : Array Value} {ty : TypeId} (h : w.heap[b]? = some (.cells arr ty (0, 0))) : (∀ c, c ≠ b → (w.freeze ⟨b, k, none⟩ 1).heap[c]? = w.heap[c]?) ∧ (∃ fr, (w.freeze ⟨b, k, none⟩ 1).heap[b]? = some (.cells arr ty fr)) ∧ (w.freeze ⟨b, k, none⟩ 1).heap.size = w.heap.size := by
 simp only [World.freeze]
 refine ⟨fun c hc => ?_, ?_, ?_⟩
 ·simp [Array.getElem?_modify, Ne.symm hc]
 ·simp [Array.getElem?_modify, h]
 ·simp
theorem VO.mark {o : Oper} {d : Nat} {φ : Prop} {v : AV} {H' : Heap} (hT : TabOk P T) (h : evMark T n s o = some (d, φ, v, H')) (hφ : φ) (k : VO P n w0 E0 ops Q rest ⟨(d, v) :: s.sl, H'⟩) : VO P n w0 E0 ops Q (o :: rest) s := by
 intro a w hs
 obtain ⟨E, μ, hA⟩ := hs.at
 unfold evMark at h
 split at h
 ·rename_i d' ta tb x hg hd ho
  cases hb : (Nat.blt d' n && Nat.beq ta tb && isBytes T ta) with
  | false => rw [hb] at h; simp at h
  | true =>
   rw [hb] at h
   simp only [cond_true] at h
   simp only [Bool.and_eq_true] at hb
   obtain ⟨⟨hb1, hb2⟩, hb3⟩ := hb
   have hdn : d' < n := by simpa [Nat.blt_eq] using hb1
   have hab := Nat.eq_of_beq_eq_true hb2
   subst hab
   obtain ⟨e, u1, u2⟩ := isBytes_under hT hb3
   split at h
   ·rename_i id ver hx
    split at h
    ·rename_i cur xs m hH
     cases hc : Nat.beq ver cur with
     | false => rw [hc] at h; simp at h
     | true =>
      rw [hc] at h
      have hv := Nat.eq_of_beq_eq_true hc
      subst hv
      simp only [cond_true, Option.some.injEq, Prod.mk.injEq] at h
      obtain ⟨rfl, rfl, rfl, rfl⟩ := h
      have hxx := hA.opnd hx
      simp only [AR, LR, hH] at hxx
      have h3 := hxx.2.2 trivial
      simp only [HdR] at h3
      obtain ⟨hm, hrow⟩ := hA.mr.arr hH
      rcases hrow with ⟨rfl, ad0, h0⟩ | ⟨g, c', arr, ty, g1, g2, g3, g4, g5, g6⟩
      ·simp at hφ
      ·obtain ⟨f1, ⟨fr, f2⟩, f3⟩ := freeze_at (k := arr.size) g3
       have hne : ∀ c, E.S c → c ≠ g := fun c hc e => by subst e; have := hA.mr.apart c hc; rw [g5] at this; simp at this
       have hidlt : id < s.H.length := (List.getElem?_eq_some_iff.1 hH).1
       refine wpList_value (y := .slice (some ⟨g, 0, none⟩) xs.length c') (w' := w.freeze ⟨g, arr.size, none⟩ 1) hg ?_ ?_
       ·simp only [execOp, ho, h3, g1]
        simp [Go.convert, run_underlying u1, run_underlying u2, markStringish, World.shape?, g3]
       ·rw [hd]
        have hS : ∀ c, E.S c → (⟨fun c => E.S c ∨ c = g, fun c => if c = g then none else E.κ c⟩ : Env).S c ∧ (w.freeze ⟨g, arr.size, none⟩ 1).heap[c]? = w.heap[c]? := fun c hc => ⟨.inl hc, f1 c (hne c hc)⟩
        have hK : KpH μ μ s.H (s.H.set id none) := KpH.set hH trivial
        have hM : MR (w.freeze ⟨g, arr.size, none⟩ 1) ⟨fun c => E.S c ∨ c = g, fun c => if c = g then none else E.κ c⟩ μ (s.H.set id none) 0 := by
         refine MR.step hA.mr (fun c hc => ?_) (fun c hc => ?_) (fun c hc => ?_) (fun c r q hq => ?_) hS hK (fun i blk hi => ?_)
         ·rcases hc with hc | hc
          ·simp only [if_neg (hne c hc)]; exact hA.mr.apart c hc
          ·simp [hc]
         ·rw [f3]
          rcases hc with hc | hc
          ·exact hA.mr.ltS c hc
          ·rw [hc]; exact hA.mr.ltκ g (by simp [g5])
         ·rw [f3]
          simp only at hc
          split at hc
          ·simp at hc
          ·exact hA.mr.ltκ c hc
         ·simp only at hq
          split at hq
          ·simp at hq
          ·simpa using hA.mr.roots c r q hq
         ·have hii : i ≠ id := by
           intro e
           subst e
           simp [hidlt] at hi
          rw [List.getElem?_set_ne (Ne.symm hii)] at hi
          refine .inl ⟨hi, rfl, fun c q hq => ?_⟩
          have hcg : c ≠ g := by
           intro e
           subst e
           rw [g5] at hq
           simp only [Option.some.injEq, Prod.mk.injEq, Root.id.injEq] at hq
           exact hii hq.1.symm
          exact ⟨by simp only [if_neg hcg]; exact hq, f1 c hcg⟩
        refine k _ _ (hA.put hdn hM ⟨rfl, rfl, rfl, by rw [f3]; exact Nat.le_refl _, fun c hc hn => f1 c (fun e => by subst e; rw [g5] at hn; simp at hn), fun c hc => .inl hc, fun c hc => ?_, fun c hc => ?_⟩ hS hK ?_).rel
        ·rcases hc with hc | hc
         ·exact .inl hc
         ·exact .inr (.inl (by rw [hc, g5]; simp))
        ·simp only at hc
         split at hc
         ·simp at hc
         ·exact .inl hc
        ·refine ⟨_, rfl, .inl ⟨rfl, .inr ⟨g, 0, c', rfl, g2, .inr rfl, fun i hi => ?_⟩⟩⟩
         have := g6 i hi
         simp only [Rep, Ty.lv, Nat.mul_one, Nat.add_zero, cellAt, World.cell?, g3, f2, Option.isSome_none, Bool.false_eq_true, if_false, Nat.zero_add] at this ⊢
         exact this
    ·simp at h
   ·simp at h
 ·simp at h
theorem Lf.unfrz {id : Nat} {H1 : Heap} (h1 : H1[id]? = some none) {a : Lf} {y : Value} (h : LR w E μ H1 (a.frz H id) y) : LR w E μ H1 a y := by
 cases a with
 | hd i ver rng =>
  simp only [Lf.frz] at h
  cases hb : Nat.beq i id with
  | false => rw [hb] at h; exact h
  | true =>
   have := Nat.eq_of_beq_eq_true hb
   subst this
   exact ⟨LR_one h, by simp [h1]⟩
 | v t x => exact h
 | nil => exact h
 | ptr i ver a b => exact h
 | fp t x j => exact h
 | any => exact h
theorem All2.unmap {α β γ : Type} {R : α → β → Prop} {R' : γ → β → Prop} {f : γ → α} (h : ∀ x y, R (f x) y → R' x y) : ∀ {xs : List γ} {ys : List β}, All2 R (xs.map f) ys → All2 R' xs ys
 | [], [], .nil => .nil
 | x :: xs, y :: ys, .cons h1 h2 => .cons (h _ _ h1) (All2.unmap h h2)
theorem SV.unfrz {id : Nat} {H1 : Heap} (h1 : H1[id]? = some none) {a : SV} {y : Value} (h : SR w E μ H1 (a.frz H id) y) : SR w E μ H1 a y := by
 cases a with
 | lf a => exact Lf.unfrz (a := a) h1 h
 | agg l => obtain ⟨arr, h2, h3⟩ := h; exact ⟨arr, h2, All2.unmap (f := Lf.frz H id) (fun _ _ h => Lf.unfrz h1 h) h3⟩
theorem AV.unfrz {id : Nat} {H1 : Heap} (h1 : H1[id]? = some none) {a : AV} {y : Value} (h : AR w E μ H1 (a.frz H id) y) : AR w E μ H1 a y := by
 cases a with
 | lf a => exact Lf.unfrz (a := a) h1 h
 | agg l => obtain ⟨arr, h2, h3⟩ := h; exact ⟨arr, h2, All2.unmap (f := Lf.frz H id) (fun _ _ h => Lf.unfrz h1 h) h3⟩
 | tup l => obtain ⟨arr, h2, h3⟩ := h; exact ⟨arr, h2, All2.unmap (f := SV.frz H id) (fun _ _ h => SV.unfrz h1 h) h3⟩
 | clo f l => obtain ⟨arr, h2, h3⟩ := h; exact ⟨arr, h2, All2.unmap (f := SV.frz H id) (fun _ _ h => SV.unfrz h1 h) h3⟩
 | unk => exact h
def frzV (view : List (Nat × AV)) (H : Heap) (id : Nat) : List (Nat × AV) := view.map fun x => (x.1, x.2.frz H id)
def frzHp (H : Heap) (id : Nat) : Heap := (H.map fun b => b.map (Blk.frz H id)).set id none
theorem Stp.frz (id : Nat) {view : List (Nat × AV)} {o : Oper} {e : Option (Nat × AV)} (hid : isArr H id = true) (h : Stp P n w0 E0 ops Q o (frzV view H id) (frzHp H id) e H') (hn : H'[id]? = some none) : Stp P n w0 E0 ops Q o view H e H' := by
 intro sl hle a w hs
 have hs' : SRel n w0 E0 ⟨frzV sl H id, frzHp H id⟩ a w := Gh.frz id (s := ⟨sl, H⟩) hid a w hs
 have hle' : Le (frzV view H id) (frzV sl H id) := by
  intro k v hv
  simp only [frzV, look_map] at hv ⊢
  obtain ⟨u, h1, rfl⟩ := Option.map_eq_some_iff.1 hv
  rw [hle k u h1, Option.map_some]
 have next : ∀ a' w', (∃ s', SRel n w0 E0 s' a' w' ∧ s' = ⟨putE e (frzV sl H id), H'⟩) → ∃ s', SRel n w0 E0 s' a' w' ∧ s' = ⟨putE e sl, H'⟩ := by
  rintro a' w' ⟨s', h1, h2⟩
  subst h2
  refine ⟨⟨putE e sl, H'⟩, ⟨h1.size, h1.defers, h1.apart, ?_⟩, rfl⟩
  obtain ⟨E, μ, m1, m2, m3⟩ := h1.mem
  refine ⟨E, μ, m1, m2, fun k v hv => ?_⟩
  have old : ∀ k v, look sl k = some v → look (frzV sl H id) k = some (v.frz H id) := fun k v hv => by simp only [frzV, look_map, hv, Option.map_some]
  cases e with
  | none =>
   obtain ⟨y, h3, h4⟩ := m3 k _ (old k v hv)
   exact ⟨y, h3, AV.unfrz hn h4⟩
  | some x =>
   obtain ⟨j, u⟩ := x
   simp only [putE, look] at hv
   cases hb : Nat.beq j k with
   | true =>
    rw [hb] at hv
    exact m3 k v (by simp only [putE, look, hb]; exact hv)
   | false =>
    rw [hb] at hv
    obtain ⟨y, h3, h4⟩ := m3 k (v.frz H id) (by simp only [putE, look, hb]; exact old k v hv)
    exact ⟨y, h3, AV.unfrz hn h4⟩
 have hvo := h _ hle' a w hs'
 unfold wpList at hvo ⊢
 by_cases hwt : Region.wanted o (yielded ops a.tmps) = true
 ·rw [if_pos hwt] at hvo ⊢
  rcases hvo with hvo | ⟨hvo1, a1, w1, s1, h1, h2⟩
  ·refine .inl (Oper.wp_mono (fun a' w' hh => next a' w' hh) (wp_swap ?_ hvo))
   rintro e a' w' hne ⟨s1, h1, h2⟩
   refine ⟨s1, h1, ?_⟩
   cases e with
   | normal => exact absurd rfl hne
   | exit id => exact h2
   | goto l => exact h2
   | ret => exact h2
   | panic c => exact h2
   | outgrown => exact h2
  ·exact .inr ⟨hvo1, a1, w1, s1, h1, h2⟩
 ·rw [if_neg hwt] at hvo ⊢
  exact next _ _ hvo
end
end Go.Proofs.Ytjbahkjjgciooaa.Vc
namespace Go.Proofs.Ytjbahkjjgciooaa.Vc
open Go Go.RowKit
set_option linter.unusedVariables false
set_option linter.unusedSimpArgs false
def evLitAt (T : Tab) (n id : Nat) (s : St) (o : Oper) : Option (Nat × AV × Heap) :=
 match o.guard, o.dst, o.op with
 | none, some d, .buildSlice t len parts => cond (Nat.blt d n) (match elemTy T t with
  | some (_, e) => match litRows s.sl 0 parts.toList, s.H[id]? with
   | some rows, some (some (.arr v _ [] _)) => match rowsOf (mdOf e).nest e rows with
    | some (x :: xs) => cond (Nat.beq (x :: xs).length len && Nat.ble (len * e.lv) 16777216) (some (d, .lf (.hd id (v + 1) none), s.H.set id (some (.arr (v + 1) e (x :: xs) (mdOf e))))) none
    | _ => none
   | _, _ => none
  | none => none) none
 | _, _, _ => none
def hpM : List (Nat × Heap) → Nat → Heap
 | [], _ => []
 | (k, H) :: l, q => cond (Nat.beq k q) H (hpM l q)
def ixN (i : Nat) : List Nat → Option Nat
 | [] => none
 | j :: l => cond (Nat.beq j i) (some 0) ((ixN i l).map (· + 1))
def nqM (ns : List Nat) (i q : Nat) : Nat := match ixN i ns with
 | some j => q ||| 2 ^ j
 | none => q
def okqM (ops : Array Oper) (ns : List Nat) (i q : Nat) : Bool :=
 ((List.range ns.length).all fun j => match ns[j]? with
  | some x => (!memN x (aft ops i) || q.testBit j) && (!memN i (aft ops x) || !q.testBit j) && (!Nat.beq i x || !q.testBit j) &&
   ((List.range ns.length).all fun k => match ns[k]? with
    | some y => !memN x (aft ops y) || !q.testBit k || q.testBit j
    | none => true)
  | none => true)
def coversM (ops : Array Oper) (ns : List Nat) (L : List (Nat × Nat)) : Bool :=
 (List.range ops.size).all fun i => (List.range (2 ^ ns.length)).all fun q => !okqM ops ns i q || L.any fun x => Nat.beq x.1 i && Nat.beq x.2 q
def nodupN : List Nat → Bool
 | [] => true
 | x :: l => !memN x l && nodupN l
def drawOkM (ops : Array Oper) (es : List (Option (Nat × AV))) (ns : List Nat) (L : List (Nat × Nat)) : Bool :=
 nodupN ns && nodupO ((List.range ops.size).map (dstOf ops)) && coversM ops ns L && (ns.all fun x => Nat.blt x ops.size) &&
 ((List.range ops.size).all fun i => (aft ops i).all fun j => Nat.blt j i) &&
 ((List.range ops.size).all fun i => match es[i]? with | some (some (d, _)) => eqO (dstOf ops i) d | _ => true)
def StpM (P : Program) (n : Nat) (w0 : World) (E0 : Env0) (ops : Array Oper) (Q : Exit → St → Prop) (sl : List (Nat × AV)) (es : List (Option (Nat × AV))) (ns : List Nat) (Hs : List (Nat × Heap)) (x : Nat × Nat) : Prop :=
 ∃ o, ops[x.1]? = some o ∧ Stp P n w0 E0 ops Q o (vw ops es sl x.1) (hpM Hs x.2) ((es[x.1]?).getD none) (hpM Hs (nqM ns x.1 x.2))
section
variable {P : Program} {T : Tab} {n : Nat} {w0 : World} {E0 : Env0} {s s' s'' : St} {ops : Array Oper} {Q : Exit → St → Prop} {rest : List Oper} {sl sl' view : List (Nat × AV)} {H H' : Heap}
variable {w w' : World} {E E' : Env} {μ μ' : Nat → Value}
theorem Gh.rsv (e : Ty) (m : Md) (hm : m ≠ .fz) : Gh n w0 E0 s ⟨s.sl, s.H ++ [some (.arr 0 e [] m)]⟩ := by
 intro a w hs
 obtain ⟨E, μ, hA⟩ := hs.at
 have hM := hA.mr
 have hK := KpH.push (μ := μ) s.H (some (.arr 0 e [] m)) (.slice none 0 0)
 have hS : ∀ b, E.S b → E.S b ∧ w.heap[b]? = w.heap[b]? := fun b hb => ⟨hb, rfl⟩
 refine ⟨hA.size, hA.defers, hA.apart, E, putμ μ s.H.length (.slice none 0 0), ?_, hA.ext, fun k u hu => ?_⟩
 ·refine MR.step hM hM.apart hM.ltS hM.ltκ (fun b r q h => ?_) hS hK (fun id blk h => ?_)
  ·rcases hM.roots b r q h with ⟨m, h1, h2⟩ | h1
   ·exact .inl ⟨m, h1, by simp; omega⟩
   ·exact .inr h1
  ·by_cases hid : id < s.H.length
   ·rw [List.getElem?_append_left hid] at h
    exact .inl ⟨h, by simp [putμ]; omega, fun b q hq => ⟨hq, rfl⟩⟩
   ·have hlt := (List.getElem?_eq_some_iff.1 h).1
    have : id = s.H.length := by simp at hlt; omega
    subst this
    simp only [List.getElem?_concat_length, Option.some.injEq] at h
    subst h
    exact .inr ⟨hm, _, rfl, .inr ⟨hm, .inl ⟨rfl, none, by simp [putμ]⟩⟩⟩
 ·obtain ⟨z, h2, h3⟩ := hA.slots k u hu
  exact ⟨z, h2, AR.keep hS hK _ _ h3⟩
theorem MR.allocAt {id v0 c : Nat} {e0 e : Ty} {m0 : Md} {xs : List e.den} (hM : MR w E μ H 0) (hH : H[id]? = some (some (.arr v0 e0 [] m0))) (cells : Array Value) (ty : TypeId) (hc : xs.length ≤ c) (hsz : cells.size = c * e.lv)
  (hrep : ∀ i (h : i < xs.length), Rep w E (.res 0) e xs[i] .fz (fun _ => .top) (fun j => cells[i * e.lv + j]?)) :
  MR (w.alloc (.cells cells ty)) (putκ E w.heap.size (.id id, .top)) (putμ μ id (.slice (some ⟨w.heap.size, 0, none⟩) xs.length c)) (H.set id (some (.arr (v0 + 1) e xs (mdOf e)))) 0 ∧
  Ext w E (w.alloc (.cells cells ty)) (putκ E w.heap.size (.id id, .top)) ∧
  (∀ b, E.S b → (putκ E w.heap.size (.id id, .top)).S b ∧ (w.alloc (.cells cells ty)).heap[b]? = w.heap[b]?) ∧
  KpH μ (putμ μ id (.slice (some ⟨w.heap.size, 0, none⟩) xs.length c)) H (H.set id (some (.arr (v0 + 1) e xs (mdOf e)))) := by
 have hS : ∀ b, E.S b → (putκ E w.heap.size (.id id, .top)).S b ∧ (w.alloc (.cells cells ty)).heap[b]? = w.heap[b]? := fun b hb => ⟨hb, alloc_old w _ (hM.ltS b hb)⟩
 have hK : KpH μ (putμ μ id (.slice (some ⟨w.heap.size, 0, none⟩) xs.length c)) H (H.set id (some (.arr (v0 + 1) e xs (mdOf e)))) := KpH.setAt hH (.inl (Nat.lt_succ_self v0))
 have hidlt : id < H.length := (List.getElem?_eq_some_iff.1 hH).1
 have hnew : (w.alloc (.cells cells ty)).heap[w.heap.size]? = some (.cells cells ty (0, 0)) := by simp [alloc_heap]
 have hκ : ∀ b, E.κ b ≠ none → b ≠ w.heap.size := fun b h e => by have := hM.ltκ b h; omega
 have hNB : NB (w.alloc (.cells cells ty)) (putκ E w.heap.size (.id id, .top)) (putμ μ id (.slice (some ⟨w.heap.size, 0, none⟩) xs.length c)) (H.set id (some (.arr (v0 + 1) e xs (mdOf e)))) id (.arr (v0 + 1) e xs (mdOf e)) := by
  refine ⟨mdOf_ne e, _, rfl, .inr ⟨mdOf_ne e, .inr ⟨w.heap.size, c, _, ty, by simp [putμ], hc, hnew, hsz, by simp [putκ], fun i hi => ?_⟩⟩⟩
  have hce : (fun j => cellAt (w.alloc (.cells cells ty)) w.heap.size (i * e.lv + j)) = fun j => cells[i * e.lv + j]? := by
   funext j
   simp only [cellAt, World.cell?, hnew, Option.isSome_none, Bool.false_eq_true, if_false]
  rw [hce]
  exact Rep.nested (mdOf_nest e) (Rep.fz hS e _ (r' := .res 0) (p' := fun _ => .top) (fun _ _ _ h => h) (hrep i hi))
 refine ⟨MR.step hM (fun b h => ?_) (fun b h => ?_) (fun b h => ?_) (fun b r q h => ?_) hS hK (fun i blk hi => ?_), ⟨rfl, rfl, rfl, by simp [alloc_heap], fun b hb _ => alloc_old w _ hb, fun b h => h, fun b h => .inl h, fun b h => ?_⟩, hS, hK⟩
 ·have := hM.ltS b h
  simp only [putκ, if_neg (show b ≠ w.heap.size by omega)]
  exact hM.apart b h
 ·have := hM.ltS b h
  simp [alloc_heap]; omega
 ·simp only [putκ] at h
  split at h
  ·simp [alloc_heap]; omega
  ·have := hM.ltκ b h
   simp [alloc_heap]; omega
 ·simp only [putκ] at h
  split at h
  ·simp only [Option.some.injEq, Prod.mk.injEq] at h
   exact .inl ⟨id, h.1.symm, by simpa using hidlt⟩
  ·simpa using hM.roots b r q h
 ·by_cases hii : i = id
  ·subst hii
   simp only [List.getElem?_set_self hidlt, Option.some.injEq] at hi
   subst hi
   exact .inr hNB
  ·rw [List.getElem?_set_ne (Ne.symm hii)] at hi
   refine .inl ⟨hi, by simp [putμ, hii], fun b q hq => ?_⟩
   have hb := hM.ltκ b (by simp [hq])
   refine ⟨?_, alloc_old w _ hb⟩
   simp only [putκ, if_neg (show b ≠ w.heap.size by omega)]
   exact hq
 ·simp only [putκ] at h
  split at h
  ·rename_i e'; exact .inr (by omega)
  ·exact .inl h
theorem VO.litAt (id : Nat) {o : Oper} {d : Nat} {v : AV} {H' : Heap} (hT : TabOk P T) (h : evLitAt T n id s o = some (d, v, H')) (k : VO P n w0 E0 ops Q rest ⟨(d, v) :: s.sl, H'⟩) : VO P n w0 E0 ops Q (o :: rest) s := by
 intro a w hs
 obtain ⟨E, μ, hA⟩ := hs.at
 unfold evLitAt at h
 split at h
 ·rename_i d' t len parts hg hd ho
  cases hb : Nat.blt d' n with
  | false => rw [hb] at h; simp at h
  | true =>
   rw [hb] at h
   simp only [cond_true] at h
   have hdn : d' < n := by simpa [Nat.blt_eq] using hb
   split at h
   ·rename_i ti e he
    split at h
    ·rename_i rows v0 e0 m0 hrows hH
     split at h
     ·rename_i x0 xs0 hxs
      generalize hxe : x0 :: xs0 = xs at h hxs
      cases hc : (Nat.beq xs.length len && Nat.ble (len * e.lv) 16777216) with
      | false => rw [hc] at h; simp at h
      | true =>
       rw [hc] at h
       simp only [Bool.and_eq_true] at hc
       obtain ⟨hlen, hsm⟩ := hc
       have hlen : xs.length = len := Nat.eq_of_beq_eq_true hlen
       have hsm : len * e.lv ≤ 16777216 := by simpa using hsm
       simp only [cond_true, Option.some.injEq, Prod.mk.injEq] at h
       obtain ⟨rfl, rfl, rfl⟩ := h
       have h0 : len ≠ 0 := by rw [← hlen, ← hxe]; simp
       obtain ⟨f1, ej, f2, f3⟩ := elemTy_under hT he
       obtain ⟨info, g1, g2, g3, _⟩ := (hT _ _ f2).info
       rw [f3] at g2 g3
       obtain ⟨z, hz, hz'⟩ := Option.map_eq_some_iff.1 g3
       obtain ⟨l1, l2⟩ := litRows_run hA hrows
       obtain ⟨r1, r2, r3⟩ := rowsOf_rep hxs l2
       have hpos := lv_pos e
       generalize hvs : (parts.toList.map fun x => a.eval x.2) = vs at l1 l2 r1 r2 r3
       have hrun : (execOp a.eval o).run P w = .ok (.value (.slice (some ⟨w.heap.size, 0, none⟩) len len)) (w.alloc (.cells (vs.flatMap fun v => v.cells.toList).toArray ti.elem)) := by
        have hparts : (parts.map fun (i, x) => (i, a.eval x)).toList = (vs.zipIdx 0).map fun x => (x.2, x.1) := by
         rw [Array.toList_map, ← l1]
        have := run_buildSlice w t ti.elem len (parts.map fun (i, x) => (i, a.eval x)) (vs.flatMap fun v => v.cells.toList).toArray info z f1 g1 hz (by rw [g2]; omega) (by rw [g2]; have := Nat.mul_ne_zero h0 (Nat.ne_of_gt hpos); exact this) (by
         rw [hparts, g2]
         refine Great.fill_whole hpos vs _ r2 ?_
         rw [← r1, hlen]
         simp)
        simp only [execOp, ho, Sem.run_bind, this, Result.andThen_ok, Sem.run_pure]
       have hcells : (vs.flatMap fun v => v.cells.toList).toArray.size = len * e.lv := by
        rw [List.size_toArray]
        have : ∀ vs : List Value, (∀ v ∈ vs, v.cells.size = e.lv) → (vs.flatMap fun v => v.cells.toList).length = vs.length * e.lv := by
         intro vs hv
         induction vs with
         | nil => simp
         | cons v vs ih => rw [List.flatMap_cons, List.length_append, ih (fun u hu => hv u (List.mem_cons_of_mem _ hu)), Array.length_toList, hv v List.mem_cons_self, List.length_cons, Nat.add_mul]; omega
        rw [this vs r2, ← r1, hlen]
       refine wpList_value hg hrun ?_
       rw [hd]
       have hrows : ∀ i (h : i < xs.length), Rep w E (.res 0) e xs[i] .fz (fun _ => .top) (fun j => (vs.flatMap fun v => v.cells.toList).toArray[i * e.lv + j]?) := by
        intro i hi
        obtain ⟨v, hv, hr⟩ := r3 i hi
        have hgg : ∀ j y, j < e.lv → v.cells.toList[j]? = some y → (vs.flatMap fun v => v.cells.toList).toArray[i * e.lv + j]? = some y := by
         intro j y hj hy
         rw [List.getElem?_toArray, Great.flat_get hpos vs r2, Nat.mul_comm, Nat.mul_add_div hpos, Nat.div_eq_of_lt hj, Nat.add_zero, hv, Nat.mul_add_mod, Nat.mod_eq_of_lt hj]
         simpa using hy
        have hr := hr (.res 0) (fun _ => .top)
        have hr' : Rep w E (.res 0) e xs[i] .fz (fun _ => .top) (fun j => v.cells.toList[j]?) := by
         cases hf : e.flat with
         | true => exact Rep.flat hf hr
         | false =>
          have hn : (mdOf e).nest = .fz := by simp [mdOf, hf, Md.nest]
          rw [hn] at hr
          exact hr
        exact Rep.fz (fun b hb => ⟨hb, rfl⟩) e _ hgg hr'
       obtain ⟨m1, m2, m3, m4⟩ := MR.allocAt hA.mr hH (vs.flatMap fun v => v.cells.toList).toArray ti.elem (c := len) (by omega) hcells hrows
       have hidlt : id < s.H.length := (List.getElem?_eq_some_iff.1 hH).1
       rw [hlen] at m1 m4
       refine k _ _ (hA.put hdn m1 m2 m3 m4 ?_).rel
       simp [AR, LR, putμ, HdR, hidlt, Value.oneCell']
     ·simp at h
    ·simp at h
   ·simp at h
 ·simp at h
def evAllocAt (T : Tab) (n id : Nat) (s : St) (o : Oper) : Option (Nat × AV × Heap) :=
 match o.guard, o.dst, o.op with
 | none, some d, .alloc t => cond (Nat.blt d n) (match T t, s.H[id]? with
  | some ti, some (some (.arr v _ [] _)) => some (d, .lf (.ptr id (v + 1) 0 0), s.H.set id (some (.arr (v + 1) ti.ty [ti.ty.dflt] (mdOf ti.ty))))
  | _, _ => none) none
 | _, _, _ => none
theorem VO.allocAt (id : Nat) {o : Oper} {d : Nat} {v : AV} {H' : Heap} (hT : TabOk P T) (h : evAllocAt T n id s o = some (d, v, H')) (k : VO P n w0 E0 ops Q rest ⟨(d, v) :: s.sl, H'⟩) : VO P n w0 E0 ops Q (o :: rest) s := by
 intro a w hs
 obtain ⟨E, μ, hA⟩ := hs.at
 unfold evAllocAt at h
 split at h
 ·rename_i d' t hg hd ho
  cases hb : Nat.blt d' n with
  | false => rw [hb] at h; simp at h
  | true =>
   rw [hb] at h
   simp only [cond_true] at h
   have hdn : d' < n := by simpa [Nat.blt_eq] using hb
   split at h
   ·rename_i ti v0 e0 m0 hi hH
    simp only [Option.some.injEq, Prod.mk.injEq] at h
    obtain ⟨rfl, rfl, rfl⟩ := h
    obtain ⟨info, h1, h2, h3, _⟩ := (hT t ti hi).info
    obtain ⟨z, hz, hz'⟩ := Option.map_eq_some_iff.1 h3
    have hidlt : id < s.H.length := (List.getElem?_eq_some_iff.1 hH).1
    obtain ⟨m1, m2, m3, m4⟩ := MR.allocAt (e := ti.ty) (xs := [ti.ty.dflt]) (c := 1) hA.mr hH z.cells t (by simp) (by rw [← Array.length_toList, hz', zeros_length]; simp) (fun i hi => by
     have hi0 : i = 0 := by simpa using hi
     subst hi0
     refine rep_zeros ti.ty _ _ (fun j v hv => ?_)
     rw [Nat.zero_mul, Nat.zero_add, ← Array.getElem?_toList, hz']
     exact hv)
    refine wpList_value (y := .pointer (some ⟨w.heap.size, 0, none⟩)) (w' := w.alloc (.cells z.cells t)) hg ?_ ?_
    ·simp only [execOp, ho, Instr.alloc, Sem.run_bind, zeroValue, typeInfo, run_program, Result.andThen_ok, h1, Sem.run_pure, hz, newVar, newRow, run_newObj]
     rfl
    ·rw [hd]
     refine k _ _ (hA.put hdn m1 m2 m3 m4 ?_).rel
     simp [AR, LR, putμ, hidlt, Value.oneCell']
   ·simp at h
 ·simp at h
theorem Stp.allocAt (id : Nat) {o : Oper} {d : Nat} {v : AV} (hT : TabOk P T) (h : evAllocAt T n id ⟨view, H⟩ o = some (d, v, H')) : Stp P n w0 E0 ops Q o view H (some (d, v)) H' :=
 fun sl hle => VO.allocAt id hT (s := ⟨sl, H⟩) (d := d) (v := v) (H' := H') h (VO.nil rfl)
theorem Stp.litAt (id : Nat) {o : Oper} {d : Nat} {v : AV} (hT : TabOk P T) (h : evLitAt T n id ⟨view, H⟩ o = some (d, v, H')) : Stp P n w0 E0 ops Q o view H (some (d, v)) H' := by
 intro sl hle
 refine VO.litAt id hT (s := ⟨sl, H⟩) (d := d) (v := v) (H' := H') ?_ (VO.nil rfl)
 unfold evLitAt at h ⊢
 split at h
 ·rename_i d' t len parts hg hd ho
  cases hb : Nat.blt d' n with
  | false => rw [hb] at h; simp at h
  | true =>
   rw [hb] at h
   simp only [cond_true] at h ⊢
   split at h
   ·rename_i ti e he
    split at h
    ·rename_i rows v0 e0 m0 hrows hH
     have hr := hle.litRows hrows
     have hH : H[id]? = _ := hH
     simp only [hr, hH]
     exact h
    ·simp at h
   ·simp at h
 ·simp at h
theorem ixN_some : ∀ {l : List Nat} {i j : Nat}, ixN i l = some j → l[j]? = some i
 | [], i, j, h => by simp [ixN] at h
 | x :: l, i, j, h => by
  simp only [ixN] at h
  cases hb : Nat.beq x i with
  | true =>
   rw [hb] at h
   simp only [cond_true, Option.some.injEq] at h
   subst h
   rw [Nat.eq_of_beq_eq_true hb]
   rfl
  | false =>
   rw [hb] at h
   simp only [cond_false, Option.map_eq_some_iff] at h
   obtain ⟨j', h1, rfl⟩ := h
   rw [List.getElem?_cons_succ]
   exact ixN_some h1
theorem ixN_none : ∀ {l : List Nat} {i : Nat}, ixN i l = none → i ∉ l
 | [], i, h => by simp
 | x :: l, i, h => by
  simp only [ixN] at h
  cases hb : Nat.beq x i with
  | true => rw [hb] at h; simp at h
  | false =>
   rw [hb] at h
   simp only [cond_false, Option.map_eq_none_iff] at h
   intro hm
   rcases List.mem_cons.1 hm with rfl | hm
   ·rw [Nat.beq_refl] at hb; simp at hb
   ·exact ixN_none h hm
theorem nodupN_spec : ∀ {l : List Nat}, nodupN l = true → ∀ (i j x : Nat), l[i]? = some x → l[j]? = some x → i = j
 | [], _, i, j, x, h, _ => by simp at h
 | y :: l, hn, i, j, x, h1, h2 => by
  simp only [nodupN, Bool.and_eq_true, Bool.not_eq_true'] at hn
  have hy : y ∉ l := fun hm => by rw [memN_iff.2 hm] at hn; simp at hn
  cases i with
  | zero =>
   simp only [List.getElem?_cons_zero, Option.some.injEq] at h1
   cases j with
   | zero => rfl
   | succ j =>
    rw [List.getElem?_cons_succ] at h2
    subst h1
    exact absurd (List.mem_of_getElem? h2) hy
  | succ i =>
   rw [List.getElem?_cons_succ] at h1
   cases j with
   | zero =>
    simp only [List.getElem?_cons_zero, Option.some.injEq] at h2
    subst h2
    exact absurd (List.mem_of_getElem? h1) hy
   | succ j =>
    rw [List.getElem?_cons_succ] at h2
    rw [nodupN_spec hn.2 i j x h1 h2]
theorem bit_or (q j k : Nat) : (q ||| 2 ^ j).testBit k = (q.testBit k || decide (j = k)) := by
 rw [Nat.testBit_or, Nat.testBit_two_pow]
structure DInvM (n : Nat) (w0 : World) (E0 : Env0) (ops : Array Oper) (sl0 : List (Nat × AV)) (es : List (Option (Nat × AV))) (ns : List Nat) (Hs : List (Nat × Heap)) (listed : Array Bool) (a : Act) (w : World) (q : Nat) (sl : List (Nat × AV)) : Prop where
 size : listed.size = ops.size
 qlt : q < 2 ^ ns.length
 cnt : ∀ j x, ns[j]? = some x → (listed.getD x false = true ↔ q.testBit j = true)
 rel : SRel n w0 E0 ⟨sl, hpM Hs q⟩ a w
 ent : ∀ i d v, listed.getD i false = true → (es[i]?).getD none = some (d, v) → look sl d = some v
 base : ∀ k v, look sl0 k = some v → (∀ i, listed.getD i false = true → dstOf ops i ≠ some k) → look sl k = some v
 clos : ∀ x, listed.getD x false = true → ∀ y ∈ aft ops x, listed.getD y false = true
theorem drawnM_all {sl0 : List (Nat × AV)} {es : List (Option (Nat × AV))} {ns : List Nat} {Hs : List (Nat × Heap)} {L : List (Nat × Nat)} (hok : drawOkM ops es ns L = true) (hst : AllP (StpM P n w0 E0 ops Q sl0 es ns Hs) L)
  (k : ∀ a w, SRel n w0 E0 ⟨fin ops es sl0, hpM Hs (2 ^ ns.length - 1)⟩ a w → ∃ s', SRel n w0 E0 s' a w ∧ Q .normal s') :
  ∀ (fuel : Nat) (listed : Array Bool) (a : Act) (w : World) (q : Nat) (sl : List (Nat × AV)), DInvM n w0 E0 ops sl0 es ns Hs listed a w q sl → ((List.range ops.size).filter fun i => !listed.getD i false).length ≤ fuel →
   wpAny P .any ops (fun e a' w' => ∃ s', SRel n w0 E0 s' a' w' ∧ Q e s') fuel listed a w := by
 simp only [drawOkM, Bool.and_eq_true, List.all_eq_true, List.mem_range] at hok
 obtain ⟨⟨⟨⟨⟨hnn, hnd⟩, hcov⟩, hns⟩, hlow⟩, hes⟩ := hok
 have hsz : ∀ (listed : Array Bool) x, listed.getD x false = true → x < listed.size := by
  intro listed x h
  rcases Nat.lt_or_ge x listed.size with h' | h'
  ·exact h'
  ·simp [Array.getElem?_eq_none h'] at h
 have hinj : ∀ i j d, i < ops.size → j < ops.size → dstOf ops i = some d → dstOf ops j = some d → i = j := by
  intro i j d hi hj h1 h2
  exact nodupO_spec hnd i j d (by simp [hi, h1]) (by simp [hj, h2])
 have hent : ∀ i d v, i < ops.size → (es[i]?).getD none = some (d, v) → dstOf ops i = some d := by
  intro i d v hi h
  have h1 := hes i hi
  cases he : es[i]? with
  | none => rw [he] at h; simp at h
  | some e =>
   rw [he] at h h1
   simp only [Option.getD_some] at h
   subst h
   exact eqO_iff.1 h1
 -- where all has been done
 have done : ∀ (listed : Array Bool) (a : Act) (w : World) (q : Nat) (sl : List (Nat × AV)), DInvM n w0 E0 ops sl0 es ns Hs listed a w q sl → (∀ i, i < ops.size → listed.getD i false = true) → ∃ s', SRel n w0 E0 s' a w ∧ Q .normal s' := by
  intro listed a w q sl hI hall
  have hq : q = 2 ^ ns.length - 1 := by
   apply Nat.eq_of_testBit_eq
   intro j
   rw [Nat.testBit_two_pow_sub_one]
   by_cases hj : j < ns.length
   ·have hx : ns[j]? = some ns[j] := List.getElem?_eq_getElem hj
    have h1 := hns ns[j] (List.getElem_mem hj)
    have h2 := hall ns[j] (by simpa [Nat.blt_eq] using h1)
    rw [(hI.cnt j _ hx).1 h2, decide_eq_true hj]
   ·rw [decide_eq_false hj]
    exact Nat.testBit_lt_two_pow (Nat.lt_of_lt_of_le hI.qlt (Nat.pow_le_pow_right (by omega) (by omega)))
  have hr := hI.rel
  rw [hq] at hr
  refine k a w (hr.le ?_)
  intro d v hv
  rcases look_append hv with h1 | h1
  ·obtain ⟨j, hj1, hj2⟩ := List.mem_filterMap.1 (look_mem h1)
   exact hI.ent j d v (hall j (by simpa using hj1)) hj2
  ·obtain ⟨h2, h3⟩ := look_filter (fun x => (List.range ops.size).all fun j => !eqO (dstOf ops j) x) h1
   refine hI.base d v h2 (fun i hi hd => ?_)
   have hlt : i < ops.size := by rw [← hI.size]; exact hsz _ _ hi
   simp only [List.all_eq_true, List.mem_range, Bool.not_eq_true'] at h3
   have := h3 i hlt
   rw [eqO_iff.2 hd] at this
   simp at this
 have ready_nil : ∀ (listed : Array Bool), listed.size = ops.size → Region.ready .any ops listed = [] → ∀ i, i < ops.size → listed.getD i false = true := by
  intro listed hs hr i
  induction i using Nat.strongRecOn with
  | _ i ih =>
   intro hi
   cases hl : listed.getD i false with
   | true => rfl
   | false =>
    exfalso
    have : i ∈ Region.ready .any ops listed := by
     rw [mem_ready]
     have hi' : i < listed.size := by omega
     refine ⟨?_, ops[i], by simp [hi], fun e he hb => ?_⟩
     ·simp only [Array.getD_eq_getD_getElem?, Array.getElem?_eq_getElem hi', Option.getD_some] at hl ⊢
      exact hl
     ·have hm : e.on ∈ aft ops i := (aft_of (by simp [hi])).2 ⟨e, he, hb, rfl⟩
      have hlt := hlow i hi e.on hm
      have hlt : e.on < i := by simpa [Nat.blt_eq] using hlt
      exact ih e.on hlt (by omega)
    rw [hr] at this
    simp at this
 intro fuel
 induction fuel with
 | zero =>
  intro listed a w q sl hI hf
  have hall : ∀ i, i < ops.size → listed.getD i false = true := by
   intro i hi
   cases hl : listed.getD i false with
   | true => rfl
   | false =>
    have : i ∈ (List.range ops.size).filter fun i => !listed.getD i false := by rw [List.mem_filter]; exact ⟨by simpa using hi, by simp only [hl, Bool.not_false]⟩
    have := List.length_pos_of_mem this
    omega
  refine ⟨?_, done listed a w q sl hI hall⟩
  rw [List.eq_nil_iff_forall_not_mem]
  intro i hi
  rw [mem_ready] at hi
  obtain ⟨h1, o, ho, _⟩ := hi
  have hlt := (Array.getElem?_eq_some_iff.1 ho).1
  have := hall i hlt
  have hi' : i < listed.size := by rw [hI.size]; exact hlt
  simp only [Array.getD_eq_getD_getElem?, Array.getElem?_eq_getElem hi', Option.getD_some] at this h1
  rw [this] at h1
  simp at h1
 | succ fuel ih =>
  intro listed a w q sl hI hf
  refine ⟨fun hr => done listed a w q sl hI (ready_nil listed hI.size hr), fun i hi => ?_⟩
  rw [mem_ready] at hi
  obtain ⟨hni, o, ho, hafter⟩ := hi
  have hlt := (Array.getElem?_eq_some_iff.1 ho).1
  have hi' : i < listed.size := by rw [hI.size]; exact hlt
  have hni : listed.getD i false = false := by
   simp only [Array.getD_eq_getD_getElem?, Array.getElem?_eq_getElem hi', Option.getD_some] at hni ⊢
   exact hni
  have haft : ∀ j ∈ aft ops i, listed.getD j false = true := by
   intro j hj
   obtain ⟨e, h1, h2, rfl⟩ := (aft_of ho).1 hj
   exact hafter e h1 h2
  have hself : ∀ j x, ns[j]? = some x → i = x → q.testBit j = false := by
   intro j x hx e
   subst e
   cases hb : q.testBit j with
   | false => rfl
   | true => have := (hI.cnt j i hx).2 hb; rw [hni] at this; simp at this
  have hokq : okqM ops ns i q = true := by
   simp only [okqM, List.all_eq_true, List.mem_range]
   intro j hj
   obtain ⟨x, hx⟩ : ∃ x, ns[j]? = some x := ⟨_, List.getElem?_eq_getElem hj⟩
   simp only [hx, Bool.and_eq_true, Bool.or_eq_true, Bool.not_eq_true', List.all_eq_true, List.mem_range]
   refine ⟨⟨⟨?_, ?_⟩, ?_⟩, ?_⟩
   ·cases hm : memN x (aft ops i) with
    | false => exact .inl rfl
    | true => exact .inr ((hI.cnt j x hx).1 (haft x (memN_iff.1 hm)))
   ·cases hm : memN i (aft ops x) with
    | false => exact .inl rfl
    | true =>
     refine .inr ?_
     cases hb : q.testBit j with
     | false => rfl
     | true =>
      have := hI.clos x ((hI.cnt j x hx).2 hb) i (memN_iff.1 hm)
      rw [hni] at this
      simp at this
   ·cases hm : Nat.beq i x with
    | false => exact .inl rfl
    | true => exact .inr (hself j x hx (Nat.eq_of_beq_eq_true hm))
   ·intro k hk
    obtain ⟨y, hy⟩ : ∃ y, ns[k]? = some y := ⟨_, List.getElem?_eq_getElem hk⟩
    simp only [hy, Bool.or_eq_true, Bool.not_eq_true']
    cases hm : memN x (aft ops y) with
    | false => exact .inl (.inl rfl)
    | true =>
     cases hb : q.testBit k with
     | false => exact .inl (.inr rfl)
     | true => exact .inr ((hI.cnt j x hx).1 (hI.clos y ((hI.cnt k y hy).2 hb) x (memN_iff.1 hm)))
  have hL : (i, q) ∈ L := by
   simp only [coversM, List.all_eq_true, List.mem_range] at hcov
   have := hcov i hlt q hI.qlt
   rw [hokq] at this
   simp only [Bool.not_true, Bool.false_or, List.any_eq_true, Bool.and_eq_true] at this
   obtain ⟨x, h1, h2, h3⟩ := this
   obtain ⟨x1, x2⟩ := x
   have e1 := Nat.eq_of_beq_eq_true h2
   have e2 := Nat.eq_of_beq_eq_true h3
   simp only at e1 e2
   subst e1 e2
   exact h1
  obtain ⟨o', ho', hstp⟩ := AllP.mem hst (i, q) hL
  simp only at ho' hstp
  rw [ho] at ho'
  simp only [Option.some.injEq] at ho'
  subst ho'
  have hle : Le (vw ops es sl0 i) sl := by
   intro d v hv
   rcases look_append hv with h1 | h1
   ·obtain ⟨j, hj1, hj2⟩ := List.mem_filterMap.1 (look_mem h1)
    exact hI.ent j d v (haft j hj1) hj2
   ·obtain ⟨h2, h3⟩ := look_filter (fun x => (List.range ops.size).all fun j => !eqO (dstOf ops j) x || memN i (aft ops j)) h1
    refine hI.base d v h2 (fun i2 hi2 hd => ?_)
    have hlt2 : i2 < ops.size := by rw [← hI.size]; exact hsz _ _ hi2
    simp only [List.all_eq_true, List.mem_range, Bool.or_eq_true, Bool.not_eq_true'] at h3
    rcases h3 i2 hlt2 with h4 | h4
    ·rw [eqO_iff.2 hd] at h4; simp at h4
    ·have := hI.clos i2 hi2 i (memN_iff.1 h4)
     rw [hni] at this
     simp at this
  have hvo := hstp sl hle a w hI.rel
  -- what holds behind it
  have next : ∀ a' w', SRel n w0 E0 ⟨putE ((es[i]?).getD none) sl, hpM Hs (nqM ns i q)⟩ a' w' → wpAny P .any ops (fun e a' w' => ∃ s', SRel n w0 E0 s' a' w' ∧ Q e s') fuel (listed.setIfInBounds i true) a' w' := by
   intro a' w' hr
   have hget : ∀ x, (listed.setIfInBounds i true).getD x false = true ↔ x = i ∨ listed.getD x false = true := by
    intro x
    by_cases hx : x = i
    ·subst hx
     simp [hi']
    ·rw [getD_set_ne false (Ne.symm hx)]
     simp [hx]
   refine ih _ a' w' (nqM ns i q) (putE ((es[i]?).getD none) sl) ⟨by simp [hI.size], ?_, ?_, hr, ?_, ?_, ?_⟩ ?_
   ·unfold nqM
    split
    ·rename_i j hj
     have hj2 := (List.getElem?_eq_some_iff.1 (ixN_some hj)).1
     exact Nat.or_lt_two_pow hI.qlt (Nat.pow_lt_pow_right (by omega) hj2)
    ·exact hI.qlt
   ·intro j x hx
    rw [hget, hI.cnt j x hx]
    unfold nqM
    split
    ·rename_i j0 hj0
     have hj0 := ixN_some hj0
     rw [bit_or]
     simp only [Bool.or_eq_true, decide_eq_true_eq]
     constructor
     ·rintro (rfl | h)
      ·exact .inr (nodupN_spec hnn j0 j x hj0 hx)
      ·exact .inl h
     ·rintro (h | rfl)
      ·exact .inr h
      ·rw [hj0] at hx
       simp only [Option.some.injEq] at hx
       exact .inl hx.symm
    ·rename_i hj0
     constructor
     ·rintro (rfl | h)
      ·exact absurd (List.mem_of_getElem? hx) (ixN_none hj0)
      ·exact h
     ·exact .inr
   ·intro i2 d v h1 h2
    rw [hget] at h1
    cases he : (es[i]?).getD none with
    | none =>
     rcases h1 with rfl | h1
     ·rw [he] at h2; simp at h2
     ·exact hI.ent i2 d v h1 h2
    | some x =>
     obtain ⟨d0, v0⟩ := x
     simp only [putE, look_put]
     rcases h1 with rfl | h1
     ·rw [he] at h2
      simp only [Option.some.injEq, Prod.mk.injEq] at h2
      rw [if_pos h2.1, h2.2]
     ·have hlt2 : i2 < ops.size := by rw [← hI.size]; exact hsz _ _ h1
      rw [if_neg]
      ·exact hI.ent i2 d v h1 h2
      ·intro e
       subst e
       have := hinj i i2 d0 hlt hlt2 (hent i d0 v0 hlt he) (hent i2 d0 v hlt2 h2)
       subst this
       rw [hni] at h1
       simp at h1
   ·intro d v h1 h2
    have hb := hI.base d v h1 (fun i2 hi2 => h2 i2 ((hget i2).2 (.inr hi2)))
    cases he : (es[i]?).getD none with
    | none => exact hb
    | some x =>
     obtain ⟨d0, v0⟩ := x
     simp only [putE, look_put]
     rw [if_neg]
     ·exact hb
     ·intro e
      subst e
      exact h2 i ((hget i).2 (.inl rfl)) (hent i d0 v0 hlt he)
   ·intro x hx y hy
    rw [hget] at hx ⊢
    rcases hx with rfl | hx
    ·exact .inr (haft y hy)
    ·exact .inr (hI.clos x hx y hy)
   ·have hsub : ((List.range ops.size).filter fun x => !(listed.setIfInBounds i true).getD x false).length < ((List.range ops.size).filter fun x => !listed.getD x false).length := by
     have hp : ∀ x, (!(listed.setIfInBounds i true).getD x false) = ((!listed.getD x false) && !decide (x = i)) := by
      intro x
      cases h1 : (listed.setIfInBounds i true).getD x false with
      | true =>
       rcases (hget x).1 h1 with h2 | h2
       ·simp [h2]
       ·rw [h2]; rfl
      | false =>
       have h2 : ¬ (x = i ∨ listed.getD x false = true) := fun h => by rw [(hget x).2 h] at h1; simp at h1
       have h3 : x ≠ i := fun e => h2 (.inl e)
       have h4 : listed.getD x false = false := by cases h5 : listed.getD x false with
        | true => exact absurd (.inr h5) h2
        | false => rfl
       rw [h4]
       simp [h3]
     have e : ((List.range ops.size).filter fun x => !(listed.setIfInBounds i true).getD x false) = ((List.range ops.size).filter fun x => !listed.getD x false).filter fun x => !decide (x = i) := by
      rw [List.filter_filter]
      congr 1
      funext x
      rw [hp x, Bool.and_comm]
     rw [e]
     refine List.length_filter_lt_length_iff_exists.2 ⟨i, ?_, by simp⟩
     rw [List.mem_filter]
     exact ⟨by simpa using hlt, by simp only [hni, Bool.not_false]⟩
    omega
  unfold wpOp
  rw [ho]
  simp only
  unfold wpList at hvo
  by_cases hwt : Region.wanted o (yielded ops a.tmps) = true
  ·rw [if_pos hwt] at hvo ⊢
   rcases hvo with hvo | ⟨hvo1, a1, w1, s1, h1, h2⟩
   ·refine .inl (Oper.wp_mono ?_ (wp_swap ?_ hvo))
    ·rintro a' w' ⟨s1, h1, h2⟩
     have h2 : s1 = _ := h2
     subst h2
     exact next a' w' h1
    ·rintro e a' w' hne ⟨s1, h1, h2⟩
     refine ⟨s1, h1, ?_⟩
     cases e with
     | normal => exact absurd rfl hne
     | exit id => exact h2
     | goto l => exact h2
     | ret => exact h2
     | panic c => exact h2
     | outgrown => exact h2
   ·exact .inr ⟨hvo1, a1, w1, s1, h1, h2⟩
  ·rw [if_neg hwt] at hvo ⊢
   obtain ⟨s1, h1, h2⟩ := hvo
   have h2 : s1 = _ := h2
   subst h2
   exact next _ _ h1
theorem VW.drawnM {id : Nat} (hm : P.follows .mixedOrders = true) (es : List (Option (Nat × AV))) (ns : List Nat) (Hs : List (Nat × Heap)) (L : List (Nat × Nat)) (keep π : List Nat) (hok : drawOkM ops es ns L = true) (h0 : hpM Hs 0 = s.H)
  (hst : AllP (StpM P n w0 E0 ops Q s.sl es ns Hs) L) (he : (bif nodup π then some ((⟨fin ops es s.sl, hpM Hs (2 ^ ns.length - 1)⟩ : St).ren keep π) else none) = some s') (k : Q .normal s') : VW P n w0 E0 (.region id ops true) Q s := by
 intro a w hs
 have hrep : ∀ x, (Array.replicate ops.size false).getD x false = false := by
  intro x
  rw [Array.getD_eq_getD_getElem?, Array.getElem?_replicate]
  split <;> rfl
 refine wp_region_any hm ?_
 refine drawnM_all hok hst ?_ ops.size _ a _ 0 s.sl ⟨by simp, Nat.two_pow_pos _, ?_, ?_, ?_, ?_, ?_⟩ ?_
 ·intro a' w' hr
  cases hn : nodup π with
  | false => rw [hn] at he; simp at he
  | true =>
   rw [hn] at he
   simp only [cond_true, Option.some.injEq] at he
   subst he
   exact ⟨_, Gh.ren keep π hn a' w' hr, k⟩
 ·intro j x hx
  rw [hrep]
  simp
 ·rw [h0]
  exact hs.drew
 ·intro i d v hi
  rw [hrep] at hi
  simp at hi
 ·exact fun k v hv _ => hv
 ·intro x hx
  rw [hrep] at hx
  simp at hx
 ·exact Nat.le_trans (List.length_filter_le _ _) (by simp)
theorem mT {es : List (Option (Nat × AV))} {ns : List Nat} {Hs : List (Nat × Heap)} {x : Nat × Nat} {o : Oper} (hT : TabOk P T) (ho : ops[x.1]? = some o := by rfl)
  (h : evR T n .dp ⟨vw ops es sl x.1, hpM Hs x.2⟩ o = some (True, (es[x.1]?).getD none, hpM Hs (nqM ns x.1 x.2)) := by kernel_rfl) : StpM P n w0 E0 ops Q sl es ns Hs x :=
 ⟨o, ho, Stp.ev hT h trivial⟩
theorem sRh (hT : TabOk P T) (keep π : List Nat) (sl : List (Nat × AV)) {id : Nat} {y : Code} {φ : Prop} (hφ : φ) (k : VW P n w0 E0 y Q ⟨sl, s.H⟩) (h : evk T n ops .dp ops.toList.length ops.toList keep π s = some (φ, ⟨sl, s.H⟩) := by kernel_rfl) :
  VW P n w0 E0 (.seq (.region id ops false) y) Q s := VW.seqRg hT .dp keep π h hφ k
theorem rRh (hT : TabOk P T) (keep π : List Nat) (sl : List (Nat × AV)) {id : Nat} {φ : Prop} (hφ : φ) (k : Q .normal ⟨sl, s.H⟩) (h : evk T n ops .dp ops.toList.length ops.toList keep π s = some (φ, ⟨sl, s.H⟩) := by kernel_rfl) :
  VW P n w0 E0 (.region id ops false) Q s := VW.rg hT .dp keep π h hφ k
theorem sGh (hT : TabOk P T) (j : Nat) (keep π : List Nat) (sl : List (Nat × AV)) {φ : Prop} (hφ : φ) (k : VO P n w0 E0 ops Q (rest.drop j) ⟨sl, s.H⟩) (h : evk T n ops .dp j rest keep π s = some (φ, ⟨sl, s.H⟩) := by kernel_rfl) :
  VO P n w0 E0 ops Q rest s := VO.seg hT .dp j keep π h hφ k
theorem sNh (hT : TabOk P T) (keep π : List Nat) (sl : List (Nat × AV)) {φ : Prop} (hφ : φ) (k : Q .normal ⟨sl, s.H⟩) (h : evk T n ops .dp rest.length rest keep π s = some (φ, ⟨sl, s.H⟩) := by kernel_rfl) :
  VO P n w0 E0 ops Q rest s := VO.seg hT .dp rest.length keep π h hφ (by rw [List.drop_length]; exact VO.nil k)
end
abbrev lv (t : Ty) (x : t.den) : List Lf := leafs t x .fz
abbrev zi (n : Int) : Lf := .v (.int .i64) n
abbrev zb (b : Bool) : Lf := .v .bool b
abbrev zs (b : ByteArray) : Lf := .v .str b
abbrev wr (n : Int) : Int := IntKind.i64.wrap n
end Go.Proofs.Ytjbahkjjgciooaa.Vc
namespace Go.Proofs.Ytjbahkjjgciooaa.Vc
open Go Go.RowKit
set_option linter.unusedVariables false
def nx (T : Tab) (n : Nat) (ops : Array Oper) (l : List Oper) (s : St) : St := match evs T n ops .dp l s with
 | some (_, s') => s'
 | none => s
def nf (T : Tab) (n : Nat) (ops : Array Oper) (l : List Oper) (s : St) : Option Prop := match evs T n ops .dp l s with
 | some (φ, _) => some φ
 | none => none
inductive DSp where
 | cl (fr : List Nat) (d : Option Nat) (rs : List RC)
 | lit (b : Bool)
 | ev (fr : List Nat)
def lookS : List (Nat × DSp) → Nat → Option DSp
 | [], _ => none
 | (j, v) :: l, k => cond (Nat.beq j k) (some v) (lookS l k)
def frs : List Nat → St → St
 | [], s => s
 | i :: l, s => frs l ⟨frzV s.sl s.H i, frzHp s.H i⟩
def evRG (T : Tab) (n : Nat) (m : Md) (ops : Array Oper) (s : St) (o : Oper) : Option (Prop × Option (Nat × AV) × Heap) :=
 match o.guard with
 | none => evR T n m s o
 | some (j, want) => match ops[j]? with
  | some g => match g.dst with
   | some d => match opnd s.sl (.tmp d) with
    | some (.lf (.v .bool b)) => cond (b == want) (evR T n m s { o with guard := none }) (match o.dst with
     | some e => cond (Nat.blt e n) (some (True, some (e, .unk), s.H)) none
     | none => none)
    | some .unk => match o.dst with
     | some e => cond (Nat.blt e n) (some (True, some (e, .unk), s.H)) none
     | none => none
    | _ => none
   | none => none
  | none => none
structure DT where
 es : List (Option (Nat × AV))
 Hs : List Heap
 fs : List Prop
def evSp (T : Tab) (n : Nat) (ops : Array Oper) (s : St) (o : Oper) : Option DSp → Option (Prop × Option (Nat × AV) × Heap)
 | none => evRG T n .dp ops s o
 | some (.cl fr d rs) => some (True, d.map fun d => (d, resA (frs fr s).H.length rs), (frs fr s).H ++ ownsC rs)
 | some (.lit b) => some (True, o.dst.map fun d => (d, .lf (.v .bool b)), s.H)
 | some (.ev fr) => match evR T n .dp (frs fr s) { o with guard := none } with
  | some (_, e, H') => some (True, e, H')
  | none => none
def dRun (T : Tab) (n : Nat) (ops : Array Oper) (ns : List Nat) (sp : List (Nat × DSp)) (sl : List (Nat × AV)) : Nat → List Oper → List (Option (Nat × AV)) → Heap → DT
 | _, [], _, H => ⟨[], [H], []⟩
 | i, o :: l, es, H => match evSp T n ops ⟨es.filterMap id ++ sl, H⟩ o (lookS sp i) with
  | some (φ, e, H') => cond (memN i ns)
    ⟨e :: (dRun T n ops ns sp sl (i + 1) l (es ++ [e]) H').es, H :: (dRun T n ops ns sp sl (i + 1) l (es ++ [e]) H').Hs, φ :: (dRun T n ops ns sp sl (i + 1) l (es ++ [e]) H').fs⟩
    ⟨e :: (dRun T n ops ns sp sl (i + 1) l (es ++ [e]) H).es, (dRun T n ops ns sp sl (i + 1) l (es ++ [e]) H).Hs, φ :: (dRun T n ops ns sp sl (i + 1) l (es ++ [e]) H).fs⟩
  | none => ⟨[], [H], []⟩
def dD (T : Tab) (n : Nat) (ops : Array Oper) (ns : List Nat) (sp : List (Nat × DSp)) (s : St) : DT := dRun T n ops ns sp s.sl 0 ops.toList [] s.H
def AllT : List Prop → Prop
 | [] => True
 | p :: l => p ∧ AllT l
def dL (ops : Array Oper) (ns : List Nat) : List (Nat × Nat) :=
 (List.range ops.size).flatMap fun i => ((List.range (ns.length + 1)).filter fun q => okq ops ns i q).map fun q => (i, q)
def isSp (sp : List (Nat × DSp)) (x : Nat × Nat) : Bool := (lookS sp x.1).isSome
def dLhs (T : Tab) (n : Nat) (ops : Array Oper) (sl : List (Nat × AV)) (D : DT) (x : Nat × Nat) : Option (Prop × Option (Nat × AV) × Heap) := match ops[x.1]? with
 | some o => evRG T n .dp ops ⟨vw ops D.es sl x.1, (D.Hs[x.2]?).getD []⟩ o
 | none => none
def dRhs (ns : List Nat) (D : DT) (x : Nat × Nat) : Option (Prop × Option (Nat × AV) × Heap) :=
 some ((D.fs[x.1]?).getD True, (D.es[x.1]?).getD none, (D.Hs[cond (memN x.1 ns) (x.2 + 1) x.2]?).getD [])
def dOut (T : Tab) (n : Nat) (ops : Array Oper) (ns : List Nat) (sp : List (Nat × DSp)) (keep π : List Nat) (s : St) : St :=
 (⟨fin ops (dD T n ops ns sp s).es s.sl, ((dD T n ops ns sp s).Hs[ns.length]?).getD []⟩ : St).ren keep π
section
variable {P : Program} {T : Tab} {n : Nat} {w0 : World} {E0 : Env0} {s s' s'' : St} {ops : Array Oper} {Q : Exit → St → Prop} {rest : List Oper} {sl view : List (Nat × AV)} {H H' : Heap}
theorem nf_some {l : List Oper} {φ : Prop} (h : nf T n ops l s = some φ) : evs T n ops .dp l s = some (φ, nx T n ops l s) := by
 unfold nf at h
 unfold nx
 split at h
 ·rename_i e
  simp only [Option.some.injEq] at h
  subst h
  rw [e]
 ·simp at h
theorem nN (hT : TabOk P T) {φ : Prop} (hφ : φ) (k : Q .normal (nx T n ops rest s)) (h : nf T n ops rest s = some φ := by kernel_rfl) : VO P n w0 E0 ops Q rest s := by
 have h1 : VO P n w0 E0 ops Q [] (nx T n ops rest s) := VO.nil k
 have := evs_run (rest := []) hT (nf_some h) hφ h1
 rwa [List.append_nil] at this
theorem nG (hT : TabOk P T) (j : Nat) {φ : Prop} (hφ : φ) (k : VO P n w0 E0 ops Q (rest.drop j) (nx T n ops (rest.take j) s)) (h : nf T n ops (rest.take j) s = some φ := by kernel_rfl) : VO P n w0 E0 ops Q rest s := by
 have := evs_run hT (nf_some h) hφ k
 rwa [List.take_append_drop] at this
theorem nR (hT : TabOk P T) {id : Nat} {y : Code} {φ : Prop} (hφ : φ) (k : VW P n w0 E0 y Q (nx T n ops ops.toList s)) (h : nf T n ops ops.toList s = some φ := by kernel_rfl) : VW P n w0 E0 (.seq (.region id ops false) y) Q s :=
 VW.seqVO (nN hT hφ k h)
theorem nE (hT : TabOk P T) {id : Nat} {φ : Prop} (hφ : φ) (k : Q .normal (nx T n ops ops.toList s)) (h : nf T n ops ops.toList s = some φ := by kernel_rfl) : VW P n w0 E0 (.region id ops false) Q s :=
 VW.region (nN hT hφ k h)
theorem Stp.evG {o : Oper} {φ : Prop} {e : Option (Nat × AV)} (hT : TabOk P T) (h : evRG T n .dp ops ⟨view, H⟩ o = some (φ, e, H')) (hφ : φ) : Stp P n w0 E0 ops Q o view H e H' := by
 unfold evRG at h
 split at h
 ·exact Stp.ev hT h hφ
 ·rename_i j want hg
  split at h
  ·rename_i g hj
   split at h
   ·rename_i d hd
    split at h
    ·rename_i b hb
     cases hw : b == want with
     | true => rw [hw] at h; exact Stp.on hg hj hd hb (by simpa using hw) (Stp.ev hT h hφ)
     | false =>
      rw [hw] at h
      simp only [cond_false] at h
      split at h
      ·rename_i e' he
       cases hn : Nat.blt e' n with
       | false => rw [hn] at h; simp at h
       | true =>
        rw [hn] at h
        simp only [cond_true, Option.some.injEq, Prod.mk.injEq] at h
        obtain ⟨_, rfl, rfl⟩ := h
        exact Stp.off hg hj hd hb (by simpa using hw) he (by simpa [Nat.blt_eq] using hn)
      ·simp at h
    ·rename_i hb
     split at h
     ·rename_i e' he
      cases hn : Nat.blt e' n with
      | false => rw [hn] at h; simp at h
      | true =>
       rw [hn] at h
       simp only [cond_true, Option.some.injEq, Prod.mk.injEq] at h
       obtain ⟨_, rfl, rfl⟩ := h
       exact Stp.off2 hg hj hd hb he (by simpa [Nat.blt_eq] using hn)
     ·simp at h
    ·simp at h
   ·simp at h
  ·simp at h
theorem AllP.of {α : Type} {f : α → Prop} : ∀ {l : List α}, (∀ x ∈ l, f x) → AllP f l
 | [], _ => trivial
 | y :: l, h => ⟨h y List.mem_cons_self, AllP.of fun x hx => h x (List.mem_cons_of_mem _ hx)⟩
theorem AllT.get : ∀ {l : List Prop} (i : Nat), AllT l → (l[i]?).getD True
 | [], i, _ => by simp
 | p :: l, 0, h => by simpa using h.1
 | p :: l, i + 1, h => by simpa using AllT.get i h.2
theorem dr (hT : TabOk P T) (sp : List (Nat × DSp)) (L : List (Nat × Nat)) (ns keep π : List Nat) {id : Nat} {φ : Prop} (hφ : φ) (hsp : AllP (StpAt P n w0 E0 ops Q s.sl (dD T n ops ns sp s).es ns (dD T n ops ns sp s).Hs) L)
  (k : Q .normal (dOut T n ops ns sp keep π s)) (hL : (dL ops ns).filter (isSp sp) = L := by kernel_rfl) (hm : P.follows .mixedOrders = true := by kernel_rfl) (h1 : AllT (dD T n ops ns sp s).fs = φ := by kernel_rfl)
  (hok : (drawOk ops (dD T n ops ns sp s).es ns (dL ops ns) && nodup π) = true := by kernel_rfl) (h0 : ((dD T n ops ns sp s).Hs[0]?).getD [] = s.H := by kernel_rfl)
  (h2 : ((dL ops ns).filter fun x => !isSp sp x).map (dLhs T n ops s.sl (dD T n ops ns sp s)) = ((dL ops ns).filter fun x => !isSp sp x).map (dRhs ns (dD T n ops ns sp s)) := by kernel_rfl) : VW P n w0 E0 (.region id ops true) Q s := by
 obtain ⟨hd, hn⟩ := Bool.and_eq_true_iff.1 hok
 refine VW.drawn hm _ ns _ (dL ops ns) keep π hd h0 (AllP.of fun x hx => ?_) (s' := dOut T n ops ns sp keep π s) (by rw [hn]; rfl) k
 cases hs : isSp sp x with
 | true => exact AllP.mem hsp x (hL ▸ List.mem_filter.2 ⟨hx, hs⟩)
 | false =>
  have h3 := List.map_inj_left.1 h2 x (List.mem_filter.2 ⟨hx, by rw [hs]; rfl⟩)
  unfold dLhs dRhs at h3
  split at h3
  ·rename_i o ho
   exact ⟨o, ho, Stp.evG hT h3 (AllT.get x.1 (h1 ▸ hφ))⟩
  ·simp at h3
def gOn (ops : Array Oper) (sl : List (Nat × AV)) (o : Oper) : Bool := match o.guard with
 | none => true
 | some (j, want) => match ops[j]? with
  | some g => match g.dst with
   | some d => match opnd sl (.tmp d) with
    | some (.lf (.v .bool b)) => b == want
    | _ => false
   | none => false
  | none => false
theorem Stp.gon {o : Oper} {e : Option (Nat × AV)} (hg : gOn ops view o = true) (h : Stp P n w0 E0 ops Q { o with guard := none } view H e H') : Stp P n w0 E0 ops Q o view H e H' := by
 unfold gOn at hg
 split at hg
 ·rename_i h1
  have : ({ o with guard := none } : Oper) = o := by rw [← h1]
  rwa [this] at h
 ·rename_i j want h1
  split at hg
  ·rename_i g hj
   split at hg
   ·rename_i d hd
    split at hg
    ·rename_i b hb
     exact Stp.on h1 hj hd hb (by simpa using hg) h
    ·simp at hg
   ·simp at hg
  ·simp at hg
def noneAt (H : Heap) (i : Nat) : Bool := match H[i]? with
 | some none => true
 | _ => false
def frOk : List Nat → St → Heap → Bool
 | [], _, _ => true
 | i :: l, s, H' => isArr s.H i && noneAt H' i && frOk l ⟨frzV s.sl s.H i, frzHp s.H i⟩ H'
theorem Stp.frs {o : Oper} {e : Option (Nat × AV)} : ∀ (fr : List Nat) {s : St}, frOk fr s H' = true → Stp P n w0 E0 ops Q o (Vc.frs fr s).sl (Vc.frs fr s).H e H' → Stp P n w0 E0 ops Q o s.sl s.H e H'
 | [], _, _, h => h
 | i :: l, s, hk, h => by
  simp only [frOk, Bool.and_eq_true] at hk
  refine Stp.frz i hk.1.1 (Stp.frs l hk.2 h) ?_
  have := hk.1.2
  unfold noneAt at this
  split at this
  ·assumption
  ·simp at this
theorem qC {es : List (Option (Nat × AV))} {ns : List Nat} {Hs : List Heap} {x : Nat × Nat} {o : Oper} (br : Bool) (tys cts : List PT) (fr : List Nat) (d : Option Nat) {f : FuncId} {ps : List AV} {rs : List RC} (hT : TabOk P T) (hc : Con P f ps rs)
  (ho : ops[x.1]? = some o := by rfl) (hg : gOn ops (vw ops es sl x.1) o = true := by kernel_rfl) (h : evArgs br tys cts n (frs fr ⟨vw ops es sl x.1, (Hs[x.2]?).getD []⟩) { o with guard := none } = some (d, f, ps) := by kernel_rfl) (hsel : (cond br (selfish rs) true) = true := by rfl)
  (h1 : (d.map fun d => (d, resA (frs fr ⟨vw ops es sl x.1, (Hs[x.2]?).getD []⟩).H.length rs)) = (es[x.1]?).getD none := by kernel_rfl) (h2 : (frs fr ⟨vw ops es sl x.1, (Hs[x.2]?).getD []⟩).H ++ ownsC rs = (Hs[cond (memN x.1 ns) (x.2 + 1) x.2]?).getD [] := by kernel_rfl)
  (h3 : frOk fr ⟨vw ops es sl x.1, (Hs[x.2]?).getD []⟩ ((Hs[cond (memN x.1 ns) (x.2 + 1) x.2]?).getD []) = true := by kernel_rfl) (ht : Tabs P w0 E0.toEnv := by assumption) : StpAt P n w0 E0 ops Q sl es ns Hs x :=
 ⟨o, ho, Stp.gon hg (Stp.frs fr h3 (Stp.eq (Stp.call br tys cts hT h hc hsel) h1 h2))⟩
theorem qE {es : List (Option (Nat × AV))} {ns : List Nat} {Hs : List Heap} {x : Nat × Nat} {o : Oper} (fr : List Nat) (hT : TabOk P T) {φ : Prop} (hφ : φ)
  (ho : ops[x.1]? = some o := by rfl) (hg : gOn ops (vw ops es sl x.1) o = true := by kernel_rfl) (h : evR T n .dp (frs fr ⟨vw ops es sl x.1, (Hs[x.2]?).getD []⟩) { o with guard := none } = some (φ, (es[x.1]?).getD none, (Hs[cond (memN x.1 ns) (x.2 + 1) x.2]?).getD []) := by kernel_rfl)
  (h3 : frOk fr ⟨vw ops es sl x.1, (Hs[x.2]?).getD []⟩ ((Hs[cond (memN x.1 ns) (x.2 + 1) x.2]?).getD []) = true := by kernel_rfl) : StpAt P n w0 E0 ops Q sl es ns Hs x :=
 ⟨o, ho, Stp.gon hg (Stp.frs fr h3 (Stp.ev hT h hφ))⟩
theorem qB {es : List (Option (Nat × AV))} {ns : List Nat} {Hs : List Heap} {x : Nat × Nat} {o : Oper} (d : Nat) {b c : Bool} (hb : b = c) (hT : TabOk P T) {φ : Prop} (hφ : φ)
  (ho : ops[x.1]? = some o := by rfl) (h : evRG T n .dp ops ⟨vw ops es sl x.1, (Hs[x.2]?).getD []⟩ o = some (φ, some (d, .lf (.v .bool b)), (Hs[x.2]?).getD []) := by kernel_rfl)
  (h1 : some (d, AV.lf (.v .bool c)) = (es[x.1]?).getD none := by kernel_rfl) (h2 : (Hs[x.2]?).getD [] = (Hs[cond (memN x.1 ns) (x.2 + 1) x.2]?).getD [] := by kernel_rfl) : StpAt P n w0 E0 ops Q sl es ns Hs x :=
 ⟨o, ho, Stp.eq (Stp.lit (Stp.evG hT h hφ) hb) h1 h2⟩
theorem sq {x y : Code} (h : VW P n w0 E0 x (thenQ (VW P n w0 E0 y Q) Q) s) : VW P n w0 E0 (.seq x y) Q s := VW.seq h
end
theorem gS {α : Type} {φ : Prop} [Decidable φ] {x : Option α} {r : α} (h : gd φ x = some r) : φ ∧ x = some r := gd_some h
theorem aS {α β : Type} {x : Option α} {k : α → Option β} {r : β} (h : andO x k = some r) : ∃ a, x = some a ∧ k a = some r := andO_some h
abbrev hh (i : Nat) : AV := .lf (.hd i 0 none)
abbrev Vv (t : Ty) (x : t.den) : AV := .lf (.v t x)
end Go.Proofs.Ytjbahkjjgciooaa.Vc
