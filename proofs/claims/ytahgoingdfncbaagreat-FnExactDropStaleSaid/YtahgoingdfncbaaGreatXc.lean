/- A calculus of values over the model: what a walk keeps as plain values, and the rules for the forms of code. It speaks of any program. -/
import Derived.Test.YtahgoingdfncbaaGreatXb
import Derived.Sort.OwnSortedInts
import Derived.Lib.SlicesCompact
import Derived.WalkKit
import Derived.WalkMore
import Derived.Below
import Derived.Shelf.RegionOpenPlain
import Derived.BigRegion
namespace Go.Proofs.YtahgoingdfncbaaGreat.Vc
open Go Go.RowKit Go.Lib
set_option linter.unusedVariables false
set_option linter.unusedSimpArgs false
section
variable {P : Program} {T : Tab} {n : Nat} {w0 : World} {E0 : Env0} {s s' : St} {ops : Array Oper} {Q : Exit → St → Prop} {rest : List Oper}
variable {w w' : World} {E E' : Env} {μ μ' : Nat → Value} {H H' : Heap}
theorem append_run_s {t u elem : TypeId} {info : TypeInfo} {z : Value} (ht : P.underlying t = some (.slice elem)) (hu : P.underlying u = some .string) (hi : P.info? elem = some info) (hz : info.zero = some z) (hsz : info.size = 1) (hzs : z.cells.size = 1) (rt : TypeId) (s : ByteArray) :
  AppRun P w t u rt elem info.bytes 1 (.string s) s.size (strCells s) := by
 intro ty base sLen sCap olds hlo hcap hbase hfit hsm
 have hl := strCells_length s
 by_cases hm0 : s.size = 0
 ·refine ⟨.slice base sLen sCap, w, ?_, .inl ⟨hm0, rfl, rfl⟩⟩
  have hf := run_firstCells_string (P := P) w 1 s
  have he : strCells s = [] := List.length_eq_zero_iff.1 (by rw [hl]; exact hm0)
  rw [he, hm0] at hf
  cases base with
  | none => simp [Builtin.append_, run_underlying ht, run_underlying hu, sizeOf, typeInfo, hi, hsz, Builtin.lenOf, hcap, hm0, hf]
  | some b => simp [Builtin.append_, run_underlying ht, run_underlying hu, sizeOf, typeInfo, hi, hsz, Builtin.lenOf, hcap, hm0, hf, storeCells]
 ·by_cases hroom : sLen + s.size ≤ sCap
  ·rcases hbase with ⟨h0, _⟩ | ⟨g, cur, rfl, hg, hcur, ho⟩
   ·omega
   ·have hst := run_storeCells_at P g sLen ty (strCells s) 0 cur w hg (by omega) (strCells_oneCell s)
    simp only [Nat.add_zero, hl] at hst
    have hf := run_firstCells_string (P := P) w 1 s
    refine ⟨.slice (some ⟨g, 0, none⟩) (sLen + s.size) sCap, _, ?_, .inr (.inl ⟨by omega, g, cur, rfl, hg, hcur, hroom, rfl, rfl⟩)⟩
    simp [Builtin.append_, run_underlying ht, run_underlying hu, sizeOf, typeInfo, hi, hsz, Builtin.lenOf, hroom, hf, Addr.add_lit, hst, hl]
  ·have hcaple : sLen + s.size ≤ grownCap w (sLen + s.size) sCap elem := by
    have : sLen + s.size ≤ maxLen := by unfold maxLen; omega
    simp [grownCap, Question.cut]
   have hfit2 : Builtin.nextslicecap (sLen + s.size) sCap * info.bytes ≤ 281474976710656 := growslice_fits (by omega) hfit
   rcases hbase with ⟨h0, rfl⟩ | ⟨g, cur, rfl, hg, hcur, ho⟩
   ·have hs0 : sLen = 0 := by omega
    subst h0 hs0
    simp only [Nat.zero_add] at hcaple hfit2
    cases base with
    | none =>
     have := run_append_nil_string (P := P) (w := w) t u rt elem info z ht hu hi hz s (by omega) (by omega) (by rw [Nat.zero_add] at hfit; omega)
     refine ⟨_, _, this, .inr (.inr ⟨by omega, grownCap w s.size 0 elem, _, by simpa using hcaple, by simp, rfl, ?_, Builtin.zeroCells z.cells (grownCap w s.size 0 elem - s.size) |>.toList, by simp [strCells]⟩)⟩
     simp only [Array.size_append, Array.size_map, size_zeroCells, hzs, Nat.mul_one]
     show s.size + _ = _
     omega
    | some b0 =>
     have := run_append_grow_string (P := P) w t u rt elem info z ht hu hi hz b0 0 0 [] (by simp) (by simp) s (by omega) (by omega) (by simpa using hfit2)
     simp only [Nat.zero_add] at this
     refine ⟨_, _, this, .inr (.inr ⟨by omega, grownCap w s.size 0 elem, _, by simpa using hcaple, by simp, rfl, ?_, Builtin.zeroCells z.cells (grownCap w s.size 0 elem - s.size) |>.toList, by simp⟩)⟩
     simp only [Array.size_append, List.size_toArray, hl, size_zeroCells, hzs, List.length_nil, Nat.mul_one]
     omega
   ·have := run_append_grow_string (P := P) w t u rt elem info z ht hu hi hz ⟨g, 0, none⟩ sLen sCap olds (by rw [hsz]; exact hlo) ho s (by omega) (by omega) hfit2
    refine ⟨_, _, this, .inr (.inr ⟨by omega, grownCap w (sLen + s.size) sCap elem, _, hcaple, rfl, rfl, ?_, Builtin.zeroCells z.cells (grownCap w (sLen + s.size) sCap elem - (sLen + s.size)) |>.toList, by simp⟩)⟩
    simp only [Array.size_append, List.size_toArray, hl, hlo, size_zeroCells, hzs, Nat.mul_one]
    omega
def evAppS (T : Tab) (n : Nat) (s : St) (o : Oper) : Option (Nat × Prop × AV × Heap) :=
 match o.guard, o.dst, o.op with
 | none, some d, .call { callee := .builtin .append, args, argTypes } => cond (Nat.blt d n) (match args.toList, argTypes.toList with
  | [x, y], [t, t'] => cond (isBytes T t && isStr T t') (match opnd s.sl x, opnd s.sl y with
   | some vx, some (.lf (.v .str ys)) => match vx with
    | .lf .nil => some (d, (ys.size ≤ lim (.int .u8)), .lf (.hd s.H.length 0 none), s.H ++ [some (.arr 0 (.int .u8) (bytesOf ys) .dp)])
    | .lf (.hd id ver none) => match s.H[id]? with
     | some (some (.arr cur (.int .u8) xs m)) => cond (Nat.beq ver cur) (some (d, (xs.length + ys.size ≤ lim (.int .u8)), .lf (.hd id (ver + 1) none), s.H.set id (some (.arr (ver + 1) (.int .u8) (xs ++ bytesOf ys) m)))) none
     | _ => none
    | _ => none
   | _, _ => none) none
  | _, _ => none) none
 | _, _, _ => none
theorem bytesOf_length (z : ByteArray) : (bytesOf z).length = z.size := by
 simp [bytesOf]
theorem isBytes_elem {t : TypeId} (h : isBytes T t = true) (hT : TabOk P T) : ∃ ti, elemTy T t = some (ti, .int .u8) := by
 unfold isBytes at h
 split at h
 ·rename_i e offs szs hi
  obtain ⟨h1, j, h2, h3⟩ := hT.slice hi rfl
  exact ⟨⟨.sl (.int .u8), e, offs, szs⟩, by simp [elemTy, hi]⟩
 ·simp at h
theorem VO.appS {o : Oper} {d : Nat} {φ : Prop} {v : AV} {H' : Heap} (hT : TabOk P T) (h : evAppS T n s o = some (d, φ, v, H')) (hφ : φ) (k : VO P n w0 E0 ops Q rest ⟨(d, v) :: s.sl, H'⟩) : VO P n w0 E0 ops Q (o :: rest) s := by
 intro a w hs
 obtain ⟨E, μ, hA⟩ := hs.at
 unfold evAppS at h
 split at h
 ·rename_i d' args argTypes hg hd ho
  cases hb : Nat.blt d' n with
  | false => rw [hb] at h; simp at h
  | true =>
   rw [hb] at h
   simp only [cond_true] at h
   have hdn : d' < n := by simpa [Nat.blt_eq] using hb
   split at h
   ·rename_i x y t t' hargs hts
    cases ht : (isBytes T t && isStr T t') with
    | false => rw [ht] at h; simp at h
    | true =>
     rw [ht] at h
     simp only [cond_true] at h
     simp only [Bool.and_eq_true] at ht
     obtain ⟨ti, he⟩ := isBytes_elem ht.1 hT
     have hu := isStr_under hT ht.2
     have ha1 : args = #[x, y] := by rw [← Array.toArray_toList (xs := args), hargs]
     have ha2 : argTypes = #[t, t'] := by rw [← Array.toArray_toList (xs := argTypes), hts]
     split at h
     ·rename_i vx ys hx hy
      have ey : a.eval y = .string ys := by
       have := hA.opnd hy
       simpa [AR, LR, Rep, at0] using this
      have hsrc : ∀ info z, P.info? ti.elem = some info → info.zero = some z → info.size = (Ty.int IntKind.u8).lv → z.cells.toList = (Ty.int IntKind.u8).zeros → ∃ news, SrcG P w E (.int .u8) (bytesOf ys) t t' o.type ti.elem info.bytes (a.eval y) news := by
       intro info z g1 hz g2 hz'
       refine ⟨strCells ys, by rw [strCells_length, bytesOf_length]; simp [Ty.lv], fun i hi => ?_, ?_⟩
       ·rw [bytesOf_length] at hi
        simp only [Rep, Ty.lv, Nat.mul_one, Nat.add_zero, strCells, bytesOf, List.getElem?_map, List.getElem_map]
        have : i < ys.data.toList.length := by simpa using hi
        rw [List.getElem?_eq_getElem this]
        rfl
       ·rw [ey, bytesOf_length]
        exact append_run_s (elemTy_under hT he).1 hu g1 hz g2 (by rw [← Array.length_toList, hz']; rfl) _ ys
      split at h
      ·simp only [Option.some.injEq, Prod.mk.injEq] at h
       obtain ⟨rfl, rfl, rfl, rfl⟩ := h
       have hxx := hA.opnd hx
       exact app_nil hT hA ho rfl ha1 ha2 hg hd hdn he hxx hsrc (by rw [bytesOf_length]; exact hφ) k
      ·rename_i id ver
       split at h
       ·rename_i cur xs m hH
        cases hc : Nat.beq ver cur with
        | false => rw [hc] at h; simp at h
        | true =>
         rw [hc] at h
         have hv := Nat.eq_of_beq_eq_true hc
         subst hv
         simp only [cond_true, Option.some.injEq, Prod.mk.injEq] at h
         obtain ⟨rfl, rfl, rfl, rfl⟩ := h
         have hxx := hA.opnd hx
         simp only [AR, LR, hH] at hxx
         have h3 := hxx.2.2 trivial
         simp only [HdR] at h3
         exact app_hd hT hA ho rfl ha1 ha2 hg hd hdn he hH h3 (.inr rfl) hsrc (by rw [bytesOf_length]; exact hφ) k
       ·simp at h
      ·simp at h
     ·simp at h
   ·simp at h
 ·simp at h
def isI64 (T : Tab) (t : TypeId) : Bool := match T t with
 | some { ty := .int .i64, .. } => true
 | _ => false
theorem zeroCells_one {z : Array Value} (hz : ∀ v ∈ z, v.oneCell' = true) (hn : 0 < z.size) (q : Nat) : ∀ v ∈ (Builtin.zeroCells z q).toList, v.oneCell' = true := by
 intro v hv
 simp only [Builtin.zeroCells, Array.toList_map, List.mem_map] at hv
 obtain ⟨i, _, rfl⟩ := hv
 have := Nat.mod_lt i hn
 rw [getElem!_pos z _ this]
 exact hz _ (Array.getElem_mem this)
theorem wrap_small {q : Nat} (h : q ≤ 140737488355328) : IntKind.i64.wrap (q : Int) = q := by
 have e : (q : Int) % 2 ^ 64 = q := Int.emod_eq_of_lt (by omega) (by omega)
 simp only [IntKind.wrap, IntKind.bits, IntKind.signed, e]
 split
 ·rename_i h1
  simp at h1
  omega
 ·rfl
theorem append_run_z {t u elem : TypeId} {info : TypeInfo} {z : Value} {e : Ty} (ht : P.underlying t = some (.slice elem)) (hu : P.underlying u = some (.int .i64)) (hi : P.info? elem = some info) (hz : info.zero = some z) (hsz : info.size = e.lv) (hzs : z.cells.toList = e.zeros) (rt : TypeId) (q : Nat) (hfq : q * info.bytes ≤ 140737488355328) (hsq : q ≤ 140737488355328) :
  AppRun P w t u rt elem info.bytes e.lv (.int .i64 q) q (Builtin.zeroCells z.cells q).toList := by
 intro ty base sLen sCap olds hlo hcap hbase hfit hsm
 have hw := wrap_small hsq
 have hpos := lv_pos e
 have hzl : z.cells.size = e.lv := by rw [← Array.length_toList, hzs, zeros_length]
 have hl : (Builtin.zeroCells z.cells q).toList.length = q * e.lv := by rw [Array.length_toList]; simp [size_zeroCells, hzl]
 have h1 : ∀ v ∈ (Builtin.zeroCells z.cells q).toList, v.oneCell' = true := zeroCells_one (fun v hv => zeros_one e v (by rw [← hzs]; exact Array.mem_toList_iff.2 hv)) (by omega) q
 have hneg : ¬ ((q : Int) < 0) := by omega
 have hbig : ¬ ((q : Int) * (info.bytes : Int) > 281474976710656) := by
  have : (q : Int) * (info.bytes : Int) = ((q * info.bytes : Nat) : Int) := by rw [Int.natCast_mul]
  omega
 by_cases hm0 : q = 0
 ·subst hm0
  refine ⟨.slice base sLen sCap, w, ?_, .inl ⟨rfl, rfl, rfl⟩⟩
  have hw' : IntKind.i64.wrap (0 : Int) = 0 := hw
  cases base with
  | none => simp [Builtin.append_, run_underlying ht, run_underlying hu, sizeOf, typeInfo, hi, hcap, asInt, asIntOf, hw']
  | some b => simp [Builtin.append_, run_underlying ht, run_underlying hu, sizeOf, typeInfo, hi, hcap, asInt, asIntOf, hw', storeCells]
 ·have hne : ¬ (q * e.lv = 0) := Nat.pos_iff_ne_zero.1 (Nat.mul_pos (by omega) hpos)
  by_cases hroom : sLen + q ≤ sCap
  ·rcases hbase with ⟨h0, _⟩ | ⟨g, cur, rfl, hg, hcur, ho⟩
   ·omega
   ·have hmul : (sLen + q) * e.lv ≤ sCap * e.lv := Nat.mul_le_mul_right _ hroom
    rw [Nat.add_mul] at hmul
    have hst := run_storeCells_at P g (sLen * e.lv) ty (Builtin.zeroCells z.cells q).toList 0 cur w hg (by omega) h1
    simp only [Nat.add_zero] at hst
    refine ⟨.slice (some ⟨g, 0, none⟩) (sLen + q) sCap, _, ?_, .inr (.inl ⟨by omega, g, cur, rfl, hg, hcur, hroom, rfl, rfl⟩)⟩
    simp [Builtin.append_, run_underlying ht, run_underlying hu, sizeOf, typeInfo, zeroValue, hi, hz, hsz, asInt, asIntOf, hw, hneg, hbig, hne, hroom, Addr.add_lit, hst]
  ·have hcaple : sLen + q ≤ grownCap w (sLen + q) sCap elem := by
    have : sLen + q ≤ maxLen := by unfold maxLen; omega
    simp [grownCap, Question.cut]
   have hfit2 : Builtin.nextslicecap (sLen + q) sCap * info.bytes ≤ 281474976710656 := growslice_fits (by omega) hfit
   have h48' : ¬ (281474976710656 < Builtin.nextslicecap (sLen + q) sCap * info.bytes) := by omega
   have h63' : ¬ (9223372036854775807 < ((sLen : Int) + (q : Int))) := by omega
   have hfo : ∃ f : Sem (Array Value), True := ⟨pure #[], trivial⟩
   have hold : (Builtin.firstCells info.size sLen (.slice base sLen sCap)).run P w.drew = .ok olds.toArray w.drew := by
    rcases hbase with ⟨h0, rfl⟩ | ⟨g, cur, rfl, hg, hcur, ho⟩
    ·have hs0 : sLen = 0 := by omega
     subst hs0
     cases base with
     | none => simp [Builtin.firstCells]
     | some b => simp [Builtin.firstCells, loadCells, loadCellsFrom]
    ·exact run_firstCells_some (P := P) w.drew info.size sLen ⟨g, 0, none⟩ sLen sCap olds (by rw [hsz]; exact hlo) (by simpa using ho)
   refine ⟨_, w.drew.alloc (.cells (olds.toArray ++ Builtin.zeroCells z.cells q ++ Builtin.zeroCells z.cells (grownCap w (sLen + q) sCap elem - (sLen + q))) elem), ?_, .inr (.inr ⟨by omega, grownCap w (sLen + q) sCap elem, _, hcaple, rfl, rfl, ?_, (Builtin.zeroCells z.cells (grownCap w (sLen + q) sCap elem - (sLen + q))).toList, by simp⟩)⟩
   ·simp [Builtin.append_, run_underlying ht, run_underlying hu, sizeOf, typeInfo, zeroValue, hi, hz, hsz, asInt, asIntOf, hw, hneg, hbig, hne, hroom, h63', h48', Question.forced, newRow, grownCap]
    rw [hsz] at hold
    simp [hold]
   ·rw [Array.length_toList] at hl
    simp only [Array.size_append, List.size_toArray, hl, hlo, size_zeroCells, hzl]
    rw [← Nat.add_mul, ← Nat.add_mul]
    congr 1
    omega
def evAppZ (T : Tab) (n : Nat) (s : St) (o : Oper) : Option (Nat × Prop × AV × Heap) :=
 match o.guard, o.dst, o.op with
 | none, some d, .call { callee := .builtin .append, args, argTypes } => cond (Nat.blt d n) (match args.toList, argTypes.toList with
  | [x, y], [t, t'] => cond (isI64 T t') (match elemTy T t, opnd s.sl x, opnd s.sl y with
   | some (_, e), some (.lf .nil), some (.lf (.v (.int .i64) q)) => some (d, (0 ≤ q ∧ q ≤ (lim e : Int)), .lf (.hd s.H.length 0 none), s.H ++ [some (.arr 0 e (List.replicate q.toNat e.dflt) (mdOf e))])
   | _, _, _ => none) none
  | _, _ => none) none
 | _, _, _ => none
theorem VO.appZ {o : Oper} {d : Nat} {φ : Prop} {v : AV} {H' : Heap} (hT : TabOk P T) (h : evAppZ T n s o = some (d, φ, v, H')) (hφ : φ) (k : VO P n w0 E0 ops Q rest ⟨(d, v) :: s.sl, H'⟩) : VO P n w0 E0 ops Q (o :: rest) s := by
 intro a w hs
 obtain ⟨E, μ, hA⟩ := hs.at
 unfold evAppZ at h
 split at h
 ·rename_i d' args argTypes hg hd ho
  cases hb : Nat.blt d' n with
  | false => rw [hb] at h; simp at h
  | true =>
   rw [hb] at h
   simp only [cond_true] at h
   have hdn : d' < n := by simpa [Nat.blt_eq] using hb
   split at h
   ·rename_i x y t t' hargs hts
    cases ht : isI64 T t' with
    | false => rw [ht] at h; simp at h
    | true =>
     rw [ht] at h
     simp only [cond_true] at h
     have hu : P.underlying t' = some (.int .i64) := by
      unfold isI64 at ht
      split at ht
      ·rename_i hi
       exact (hT _ _ hi).under
      ·simp at ht
     have ha1 : args = #[x, y] := by rw [← Array.toArray_toList (xs := args), hargs]
     have ha2 : argTypes = #[t, t'] := by rw [← Array.toArray_toList (xs := argTypes), hts]
     split at h
     ·rename_i ti e q he hx hy
      simp only [Option.some.injEq, Prod.mk.injEq] at h
      obtain ⟨rfl, rfl, rfl, rfl⟩ := h
      have hq0 : (0 : Int) ≤ q := hφ.1
      have hq1 : Int.toNat q ≤ lim e := Int.toNat_le.2 hφ.2
      have ey : a.eval y = .int .i64 q := by
       have := hA.opnd hy
       simpa [AR, LR, Rep, at0] using this
      have hqe : ((q.toNat : Nat) : Int) = q := Int.toNat_of_nonneg hq0
      have hxx := hA.opnd hx
      have hlim0 : lim e ≤ 140737488355328 := Nat.div_le_self _ _
      refine app_nil hT hA ho rfl ha1 ha2 hg hd hdn he hxx (ys := List.replicate q.toNat e.dflt) (fun info z g1 hz g2 hz' => ?_) (by rw [List.length_replicate]; exact hq1) k
      obtain ⟨f1, ej, f2, f3⟩ := elemTy_under hT he
      obtain ⟨info', g1', g2', g3', _, g5, g6⟩ := (hT _ _ f2).info
      rw [g1] at g1'
      simp only [Option.some.injEq] at g1'
      subst g1'
      rw [f3] at g6
      have hfit : q.toNat * info.bytes ≤ 140737488355328 := by
       have a1 : q.toNat ≤ lim e := hq1
       have a2 : lim e * (24 * e.lv) ≤ 140737488355328 := Nat.div_mul_le_self _ _
       have a3 : q.toNat * info.bytes ≤ lim e * (24 * e.lv) := Nat.mul_le_mul a1 (by omega)
       omega
      refine ⟨(Builtin.zeroCells z.cells q.toNat).toList, by rw [Array.length_toList, List.length_replicate, size_zeroCells, show z.cells.size = e.lv by rw [← Array.length_toList, hz', zeros_length]], fun i hi => ?_, ?_⟩
      ·rw [List.length_replicate] at hi
       simp only [List.getElem_replicate]
       refine rep_zeros e _ _ (fun j v hv => ?_)
       have hj : j < e.lv := by rw [← zeros_length e]; exact (List.getElem?_eq_some_iff.1 hv).1
       rw [zeroCells_at hz' hi hj]
       exact hv
      ·rw [ey, List.length_replicate, ← hqe]
       simp only [Int.toNat_natCast]
       exact append_run_z f1 hu g1 hz g2 hz' _ _ hfit (Nat.le_trans hq1 hlim0)
     ·simp at h
   ·simp at h
 ·simp at h
def evCapN (T : Tab) (n : Nat) (s : St) (o : Oper) : Option (Nat × AV) :=
 match o.guard, o.dst, o.op with
 | none, some d, .call { callee := .builtin .cap, args, argTypes } => cond (Nat.blt d n) (match args.toList, argTypes.toList with
  | [x], [t] => match elemTy T t, opnd s.sl x with
   | some _, some (.lf .nil) => some (d, .lf (.v (.int .i64) (0 : Int)))
   | _, _ => none
  | _, _ => none) none
 | _, _, _ => none
theorem VO.capN {o : Oper} {d : Nat} {v : AV} (hT : TabOk P T) (h : evCapN T n s o = some (d, v)) (k : VO P n w0 E0 ops Q rest ⟨(d, v) :: s.sl, s.H⟩) : VO P n w0 E0 ops Q (o :: rest) s := by
 intro a w hs
 obtain ⟨E, μ, hA⟩ := hs.at
 unfold evCapN at h
 split at h
 ·rename_i d' args argTypes hg hd ho
  cases hb : Nat.blt d' n with
  | false => rw [hb] at h; simp at h
  | true =>
   rw [hb] at h
   simp only [cond_true] at h
   have hdn : d' < n := by simpa [Nat.blt_eq] using hb
   split at h
   ·rename_i x t hargs hts
    split at h
    ·rename_i te he hx
     simp only [Option.some.injEq, Prod.mk.injEq] at h
     obtain ⟨rfl, rfl⟩ := h
     have ha1 : args = #[x] := by rw [← Array.toArray_toList (xs := args), hargs]
     have ha2 : argTypes = #[t] := by rw [← Array.toArray_toList (xs := argTypes), hts]
     obtain ⟨ti, e⟩ := te
     obtain ⟨f1, _⟩ := elemTy_under hT he
     obtain ⟨ad, hxx⟩ := hA.opnd hx
     refine wpList_value (y := .int .i64 0) (w' := w) hg ?_ ?_
     ·simp only [execOp, ho, resolve, ha1, ha2, Sem.run_bind, Sem.run_pure, Result.andThen_ok, invoke, builtin]
      simp only [List.map_toArray, List.map_cons, List.map_nil, hxx]
      simp [Builtin.cap_, run_underlying f1, goInt]
     ·rw [hd]
      refine k _ _ (hA.put hdn hA.mr (Ext.refl w E) (fun b hb => ⟨hb, rfl⟩) (KpH.refl μ s.H) ?_).rel
      simp [AR, LR, Rep, at0]
    ·simp at h
   ·simp at h
 ·simp at h
def evCutN (T : Tab) (n : Nat) (s : St) (o : Oper) : Option (Nat × Prop × AV) :=
 match o.guard, o.dst, o.op with
 | none, some d, .slice t x none (some hi) none => cond (Nat.blt d n) (match elemTy T t, opnd s.sl x, opnd s.sl hi with
  | some _, some (.lf .nil), some (.lf (.v (.int _) q)) => some (d, (q = (0 : Int)), .lf .nil)
  | _, _, _ => none) none
 | _, _, _ => none
theorem VO.cutN {o : Oper} {d : Nat} {φ : Prop} {v : AV} (hT : TabOk P T) (h : evCutN T n s o = some (d, φ, v)) (hφ : φ) (k : VO P n w0 E0 ops Q rest ⟨(d, v) :: s.sl, s.H⟩) : VO P n w0 E0 ops Q (o :: rest) s := by
 intro a w hs
 obtain ⟨E, μ, hA⟩ := hs.at
 unfold evCutN at h
 split at h
 ·rename_i d' t x hi hg hd ho
  cases hb : Nat.blt d' n with
  | false => rw [hb] at h; simp at h
  | true =>
   rw [hb] at h
   simp only [cond_true] at h
   have hdn : d' < n := by simpa [Nat.blt_eq] using hb
   split at h
   ·rename_i te kk q he hx hq
    simp only [Option.some.injEq, Prod.mk.injEq] at h
    obtain ⟨rfl, rfl, rfl⟩ := h
    obtain ⟨ti, e⟩ := te
    obtain ⟨f1, ej, f2, f3⟩ := elemTy_under hT he
    obtain ⟨ad, hxx⟩ := hA.opnd hx
    have hqq := hA.opnd hq
    simp only [AR, LR_int] at hqq
    subst hφ
    refine wpList_value (y := .slice ad 0 0) (w' := w) hg ?_ ?_
    ·have := slice_run (P := P) (T := T) hT f1 f2 (a := ad) (len := 0) (cap := 0) (lo := none) (hi := some (.int kk 0)) (l := 0) (h := 0) (Nat.le_refl 0) (.inl ⟨rfl, rfl⟩) (.inr ⟨kk, 0, rfl, Int.le_refl 0, rfl⟩) (Nat.le_refl 0) (Nat.le_refl 0) w
     simp only [if_true, Nat.sub_self] at this
     simp only [execOp, ho, hxx, Option.map_none, Option.map_some, hqq, Sem.run_bind, this, Result.andThen_ok, Sem.run_pure]
    ·rw [hd]
     exact k _ _ (hA.put (v := .lf .nil) (y := .slice ad 0 0) hdn hA.mr (Ext.refl w E) (fun b hb => ⟨hb, rfl⟩) (KpH.refl μ s.H) (show ∃ a', Value.slice ad 0 0 = .slice a' 0 0 from ⟨ad, rfl⟩)).rel
   ·simp at h
 ·simp at h
def evMark (T : Tab) (n : Nat) (s : St) (o : Oper) : Option (Nat × Prop × AV × Heap) :=
 match o.guard, o.dst, o.op with
 | none, some d, .convert a b x => cond (Nat.blt d n && Nat.beq a b && isBytes T a) (match opnd s.sl x with
  | some (.lf (.hd id ver none)) => match s.H[id]? with
   | some (some (.arr cur (.int .u8) xs m)) => cond (Nat.beq ver cur) (some (d, (0 < xs.length), .lf (.v (.sl (.int .u8)) xs), s.H.set id none)) none
   | _ => none
  | _ => none) none
 | _, _, _ => none
theorem freeze_at {b k : Nat} {arr : Array Value} {ty : TypeId} (h : w.heap[b]? = some (.cells arr ty (0, 0))) : (∀ c, c ≠ b → (w.freeze ⟨b, k, none⟩ 1).heap[c]? = w.heap[c]?) ∧ (∃ fr, (w.freeze ⟨b, k, none⟩ 1).heap[b]? = some (.cells arr ty fr)) ∧ (w.freeze ⟨b, k, none⟩ 1).heap.size = w.heap.size := by
 simp only [World.freeze]
 refine ⟨fun c hc => ?_, ?_, ?_⟩
 ·simp [Array.getElem?_modify, Ne.symm hc]
 ·simp [Array.getElem?_modify, h]
 ·simp
theorem VO.mark {o : Oper} {d : Nat} {φ : Prop} {v : AV} {H' : Heap} (hT : TabOk P T) (h : evMark T n s o = some (d, φ, v, H')) (hφ : φ) (k : VO P n w0 E0 ops Q rest ⟨(d, v) :: s.sl, H'⟩) : VO P n w0 E0 ops Q (o :: rest) s := by
 intro a w hs
 obtain ⟨E, μ, hA⟩ := hs.at
 unfold evMark at h
 split at h
 ·rename_i d' ta tb x hg hd ho
  cases hb : (Nat.blt d' n && Nat.beq ta tb && isBytes T ta) with
  | false => rw [hb] at h; simp at h
  | true =>
   rw [hb] at h
   simp only [cond_true] at h
   simp only [Bool.and_eq_true] at hb
   obtain ⟨⟨hb1, hb2⟩, hb3⟩ := hb
   have hdn : d' < n := by simpa [Nat.blt_eq] using hb1
   have hab := Nat.eq_of_beq_eq_true hb2
   subst hab
   obtain ⟨e, u1, u2⟩ := isBytes_under hT hb3
   split at h
   ·rename_i id ver hx
    split at h
    ·rename_i cur xs m hH
     cases hc : Nat.beq ver cur with
     | false => rw [hc] at h; simp at h
     | true =>
      rw [hc] at h
      have hv := Nat.eq_of_beq_eq_true hc
      subst hv
      simp only [cond_true, Option.some.injEq, Prod.mk.injEq] at h
      obtain ⟨rfl, rfl, rfl, rfl⟩ := h
      have hxx := hA.opnd hx
      simp only [AR, LR, hH] at hxx
      have h3 := hxx.2.2 trivial
      simp only [HdR] at h3
      obtain ⟨hm, hrow⟩ := hA.mr.arr hH
      rcases hrow with ⟨rfl, ad0, h0⟩ | ⟨g, c', arr, ty, g1, g2, g3, g4, g5, g6⟩
      ·simp at hφ
      ·obtain ⟨f1, ⟨fr, f2⟩, f3⟩ := freeze_at (k := arr.size) g3
       have hne : ∀ c, E.S c → c ≠ g := fun c hc e => by subst e; have := hA.mr.apart c hc; rw [g5] at this; simp at this
       have hidlt : id < s.H.length := (List.getElem?_eq_some_iff.1 hH).1
       refine wpList_value (y := .slice (some ⟨g, 0, none⟩) xs.length c') (w' := w.freeze ⟨g, arr.size, none⟩ 1) hg ?_ ?_
       ·simp only [execOp, ho, h3, g1]
        simp [Go.convert, run_underlying u1, run_underlying u2, markStringish, World.shape?, g3]
       ·rw [hd]
        have hS : ∀ c, E.S c → (⟨fun c => E.S c ∨ c = g, fun c => if c = g then none else E.κ c⟩ : Env).S c ∧ (w.freeze ⟨g, arr.size, none⟩ 1).heap[c]? = w.heap[c]? := fun c hc => ⟨.inl hc, f1 c (hne c hc)⟩
        have hK : KpH μ μ s.H (s.H.set id none) := KpH.set hH trivial
        have hM : MR (w.freeze ⟨g, arr.size, none⟩ 1) ⟨fun c => E.S c ∨ c = g, fun c => if c = g then none else E.κ c⟩ μ (s.H.set id none) 0 := by
         refine MR.step hA.mr (fun c hc => ?_) (fun c hc => ?_) (fun c hc => ?_) (fun c r q hq => ?_) hS hK (fun i blk hi => ?_)
         ·rcases hc with hc | hc
          ·simp only [if_neg (hne c hc)]; exact hA.mr.apart c hc
          ·simp [hc]
         ·rw [f3]
          rcases hc with hc | hc
          ·exact hA.mr.ltS c hc
          ·rw [hc]; exact hA.mr.ltκ g (by simp [g5])
         ·rw [f3]
          simp only at hc
          split at hc
          ·simp at hc
          ·exact hA.mr.ltκ c hc
         ·simp only at hq
          split at hq
          ·simp at hq
          ·simpa using hA.mr.roots c r q hq
         ·have hii : i ≠ id := by
           intro e
           subst e
           simp [hidlt] at hi
          rw [List.getElem?_set_ne (Ne.symm hii)] at hi
          refine .inl ⟨hi, rfl, fun c q hq => ?_⟩
          have hcg : c ≠ g := by
           intro e
           subst e
           rw [g5] at hq
           simp only [Option.some.injEq, Prod.mk.injEq, Root.id.injEq] at hq
           exact hii hq.1.symm
          exact ⟨by simp only [if_neg hcg]; exact hq, f1 c hcg⟩
        refine k _ _ (hA.put hdn hM ⟨rfl, rfl, rfl, by rw [f3]; exact Nat.le_refl _, fun c hc hn => f1 c (fun e => by subst e; rw [g5] at hn; simp at hn), fun c hc => .inl hc, fun c hc => ?_, fun c hc => ?_⟩ hS hK ?_).rel
        ·rcases hc with hc | hc
         ·exact .inl hc
         ·exact .inr (.inl (by rw [hc, g5]; simp))
        ·simp only at hc
         split at hc
         ·simp at hc
         ·exact .inl hc
        ·refine ⟨_, rfl, .inl ⟨rfl, .inr ⟨g, 0, c', rfl, g2, .inr rfl, fun i hi => ?_⟩⟩⟩
         have := g6 i hi
         simp only [Rep, Ty.lv, Nat.mul_one, Nat.add_zero, cellAt, World.cell?, g3, f2, Option.isSome_none, Bool.false_eq_true, if_false, Nat.zero_add] at this ⊢
         exact this
    ·simp at h
   ·simp at h
 ·simp at h
theorem Lf.unfrz {id : Nat} {H1 : Heap} (h1 : H1[id]? = some none) {a : Lf} {y : Value} (h : LR w E μ H1 (a.frz H id) y) : LR w E μ H1 a y := by
 cases a with
 | hd i ver rng =>
  simp only [Lf.frz] at h
  cases hb : Nat.beq i id with
  | false => rw [hb] at h; exact h
  | true =>
   have := Nat.eq_of_beq_eq_true hb
   subst this
   exact ⟨LR_one h, by simp [h1]⟩
 | v t x => exact h
 | nil => exact h
 | ptr i ver a b => exact h
 | fp t x j => exact h
 | any => exact h
theorem All2.unmap {α β γ : Type} {R : α → β → Prop} {R' : γ → β → Prop} {f : γ → α} (h : ∀ x y, R (f x) y → R' x y) : ∀ {xs : List γ} {ys : List β}, All2 R (xs.map f) ys → All2 R' xs ys
 | [], [], .nil => .nil
 | x :: xs, y :: ys, .cons h1 h2 => .cons (h _ _ h1) (All2.unmap h h2)
theorem SV.unfrz {id : Nat} {H1 : Heap} (h1 : H1[id]? = some none) {a : SV} {y : Value} (h : SR w E μ H1 (a.frz H id) y) : SR w E μ H1 a y := by
 cases a with
 | lf a => exact Lf.unfrz (a := a) h1 h
 | agg l => obtain ⟨arr, h2, h3⟩ := h; exact ⟨arr, h2, All2.unmap (f := Lf.frz H id) (fun _ _ h => Lf.unfrz h1 h) h3⟩
theorem AV.unfrz {id : Nat} {H1 : Heap} (h1 : H1[id]? = some none) {a : AV} {y : Value} (h : AR w E μ H1 (a.frz H id) y) : AR w E μ H1 a y := by
 cases a with
 | lf a => exact Lf.unfrz (a := a) h1 h
 | agg l => obtain ⟨arr, h2, h3⟩ := h; exact ⟨arr, h2, All2.unmap (f := Lf.frz H id) (fun _ _ h => Lf.unfrz h1 h) h3⟩
 | tup l => obtain ⟨arr, h2, h3⟩ := h; exact ⟨arr, h2, All2.unmap (f := SV.frz H id) (fun _ _ h => SV.unfrz h1 h) h3⟩
 | clo f l => obtain ⟨arr, h2, h3⟩ := h; exact ⟨arr, h2, All2.unmap (f := SV.frz H id) (fun _ _ h => SV.unfrz h1 h) h3⟩
 | unk => exact h
def frzV (view : List (Nat × AV)) (H : Heap) (id : Nat) : List (Nat × AV) := view.map fun x => (x.1, x.2.frz H id)
def frzHp (H : Heap) (id : Nat) : Heap := (H.map fun b => b.map (Blk.frz H id)).set id none
theorem Stp.frz (id : Nat) {view : List (Nat × AV)} {o : Oper} {e : Option (Nat × AV)} (hid : isArr H id = true) (h : Stp P n w0 E0 ops Q o (frzV view H id) (frzHp H id) e H') (hn : H'[id]? = some none) : Stp P n w0 E0 ops Q o view H e H' := by
 intro sl hle a w hs
 have hs' : SRel n w0 E0 ⟨frzV sl H id, frzHp H id⟩ a w := Gh.frz id (s := ⟨sl, H⟩) hid a w hs
 have hle' : Le (frzV view H id) (frzV sl H id) := by
  intro k v hv
  simp only [frzV, look_map] at hv ⊢
  obtain ⟨u, h1, rfl⟩ := Option.map_eq_some_iff.1 hv
  rw [hle k u h1, Option.map_some]
 have next : ∀ a' w', (∃ s', SRel n w0 E0 s' a' w' ∧ s' = ⟨putE e (frzV sl H id), H'⟩) → ∃ s', SRel n w0 E0 s' a' w' ∧ s' = ⟨putE e sl, H'⟩ := by
  rintro a' w' ⟨s', h1, h2⟩
  subst h2
  refine ⟨⟨putE e sl, H'⟩, ⟨h1.size, h1.defers, h1.apart, ?_⟩, rfl⟩
  obtain ⟨E, μ, m1, m2, m3⟩ := h1.mem
  refine ⟨E, μ, m1, m2, fun k v hv => ?_⟩
  have old : ∀ k v, look sl k = some v → look (frzV sl H id) k = some (v.frz H id) := fun k v hv => by simp only [frzV, look_map, hv, Option.map_some]
  cases e with
  | none =>
   obtain ⟨y, h3, h4⟩ := m3 k _ (old k v hv)
   exact ⟨y, h3, AV.unfrz hn h4⟩
  | some x =>
   obtain ⟨j, u⟩ := x
   simp only [putE, look] at hv
   cases hb : Nat.beq j k with
   | true =>
    rw [hb] at hv
    exact m3 k v (by simp only [putE, look, hb]; exact hv)
   | false =>
    rw [hb] at hv
    obtain ⟨y, h3, h4⟩ := m3 k (v.frz H id) (by simp only [putE, look, hb]; exact old k v hv)
    exact ⟨y, h3, AV.unfrz hn h4⟩
 have hvo := h _ hle' a w hs'
 unfold wpList at hvo ⊢
 by_cases hwt : Region.wanted o (yielded ops a.tmps) = true
 ·rw [if_pos hwt] at hvo ⊢
  rcases hvo with hvo | ⟨hvo1, a1, w1, s1, h1, h2⟩
  ·refine .inl (Oper.wp_mono (fun a' w' hh => next a' w' hh) (wp_swap ?_ hvo))
   rintro e a' w' hne ⟨s1, h1, h2⟩
   refine ⟨s1, h1, ?_⟩
   cases e with
   | normal => exact absurd rfl hne
   | exit id => exact h2
   | goto l => exact h2
   | ret => exact h2
   | panic c => exact h2
   | outgrown => exact h2
  ·exact .inr ⟨hvo1, a1, w1, s1, h1, h2⟩
 ·rw [if_neg hwt] at hvo ⊢
  exact next _ _ hvo
end
end Go.Proofs.YtahgoingdfncbaaGreat.Vc
namespace Go.Proofs.YtahgoingdfncbaaGreat.Vc
open Go Go.RowKit
set_option linter.unusedVariables false
set_option linter.unusedSimpArgs false
section
variable {P : Program} {T : Tab} {n : Nat} {w0 : World} {E0 : Env0} {s s' s'' : St} {ops : Array Oper} {Q : Exit → St → Prop} {rest : List Oper} {sl sl' view : List (Nat × AV)} {H H' : Heap}
variable {w w' : World} {E E' : Env} {μ μ' : Nat → Value}
theorem sRh (hT : TabOk P T) (keep π : List Nat) (sl : List (Nat × AV)) {id : Nat} {y : Code} {φ : Prop} (hφ : φ) (k : VW P n w0 E0 y Q ⟨sl, s.H⟩) (h : evk T n ops .dp ops.toList.length ops.toList keep π s = some (φ, ⟨sl, s.H⟩) := by kernel_rfl) :
  VW P n w0 E0 (.seq (.region id ops false) y) Q s := VW.seqRg hT .dp keep π h hφ k
theorem sGh (hT : TabOk P T) (j : Nat) (keep π : List Nat) (sl : List (Nat × AV)) {φ : Prop} (hφ : φ) (k : VO P n w0 E0 ops Q (rest.drop j) ⟨sl, s.H⟩) (h : evk T n ops .dp j rest keep π s = some (φ, ⟨sl, s.H⟩) := by kernel_rfl) :
  VO P n w0 E0 ops Q rest s := VO.seg hT .dp j keep π h hφ k
theorem sNh (hT : TabOk P T) (keep π : List Nat) (sl : List (Nat × AV)) {φ : Prop} (hφ : φ) (k : Q .normal ⟨sl, s.H⟩) (h : evk T n ops .dp rest.length rest keep π s = some (φ, ⟨sl, s.H⟩) := by kernel_rfl) :
  VO P n w0 E0 ops Q rest s := VO.seg hT .dp rest.length keep π h hφ (by rw [List.drop_length]; exact VO.nil k)
end
abbrev lv (t : Ty) (x : t.den) : List Lf := leafs t x .fz
abbrev zi (n : Int) : Lf := .v (.int .i64) n
abbrev zb (b : Bool) : Lf := .v .bool b
abbrev zs (b : ByteArray) : Lf := .v .str b
abbrev wr (n : Int) : Int := IntKind.i64.wrap n
end Go.Proofs.YtahgoingdfncbaaGreat.Vc
namespace Go.Proofs.YtahgoingdfncbaaGreat.Vc
open Go Go.RowKit
set_option linter.unusedVariables false
def nx (T : Tab) (n : Nat) (ops : Array Oper) (l : List Oper) (s : St) : St := match evs T n ops .dp l s with
 | some (_, s') => s'
 | none => s
def nf (T : Tab) (n : Nat) (ops : Array Oper) (l : List Oper) (s : St) : Option Prop := match evs T n ops .dp l s with
 | some (φ, _) => some φ
 | none => none
inductive DSp where
 | cl (fr : List Nat) (d : Option Nat) (rs : List RC)
 | lit (b : Bool)
 | ev (fr : List Nat)
def lookS : List (Nat × DSp) → Nat → Option DSp
 | [], _ => none
 | (j, v) :: l, k => cond (Nat.beq j k) (some v) (lookS l k)
def frs : List Nat → St → St
 | [], s => s
 | i :: l, s => frs l ⟨frzV s.sl s.H i, frzHp s.H i⟩
def evRG (T : Tab) (n : Nat) (m : Md) (ops : Array Oper) (s : St) (o : Oper) : Option (Prop × Option (Nat × AV) × Heap) :=
 match o.guard with
 | none => evR T n m s o
 | some (j, want) => match ops[j]? with
  | some g => match g.dst with
   | some d => match opnd s.sl (.tmp d) with
    | some (.lf (.v .bool b)) => cond (b == want) (evR T n m s { o with guard := none }) (match o.dst with
     | some e => cond (Nat.blt e n) (some (True, some (e, .unk), s.H)) none
     | none => none)
    | some .unk => match o.dst with
     | some e => cond (Nat.blt e n) (some (True, some (e, .unk), s.H)) none
     | none => none
    | _ => none
   | none => none
  | none => none
structure DT where
 es : List (Option (Nat × AV))
 Hs : List Heap
 fs : List Prop
def evSp (T : Tab) (n : Nat) (ops : Array Oper) (s : St) (o : Oper) : Option DSp → Option (Prop × Option (Nat × AV) × Heap)
 | none => evRG T n .dp ops s o
 | some (.cl fr d rs) => some (True, d.map fun d => (d, resA (frs fr s).H.length rs), (frs fr s).H ++ ownsC rs)
 | some (.lit b) => some (True, o.dst.map fun d => (d, .lf (.v .bool b)), s.H)
 | some (.ev fr) => match evR T n .dp (frs fr s) { o with guard := none } with
  | some (_, e, H') => some (True, e, H')
  | none => none
def dRun (T : Tab) (n : Nat) (ops : Array Oper) (ns : List Nat) (sp : List (Nat × DSp)) (sl : List (Nat × AV)) : Nat → List Oper → List (Option (Nat × AV)) → Heap → DT
 | _, [], _, H => ⟨[], [H], []⟩
 | i, o :: l, es, H => match evSp T n ops ⟨es.filterMap id ++ sl, H⟩ o (lookS sp i) with
  | some (φ, e, H') => cond (memN i ns)
    ⟨e :: (dRun T n ops ns sp sl (i + 1) l (es ++ [e]) H').es, H :: (dRun T n ops ns sp sl (i + 1) l (es ++ [e]) H').Hs, φ :: (dRun T n ops ns sp sl (i + 1) l (es ++ [e]) H').fs⟩
    ⟨e :: (dRun T n ops ns sp sl (i + 1) l (es ++ [e]) H).es, (dRun T n ops ns sp sl (i + 1) l (es ++ [e]) H).Hs, φ :: (dRun T n ops ns sp sl (i + 1) l (es ++ [e]) H).fs⟩
  | none => ⟨[], [H], []⟩
def dD (T : Tab) (n : Nat) (ops : Array Oper) (ns : List Nat) (sp : List (Nat × DSp)) (s : St) : DT := dRun T n ops ns sp s.sl 0 ops.toList [] s.H
def AllT : List Prop → Prop
 | [] => True
 | p :: l => p ∧ AllT l
def dL (ops : Array Oper) (ns : List Nat) : List (Nat × Nat) :=
 (List.range ops.size).flatMap fun i => ((List.range (ns.length + 1)).filter fun q => okq ops ns i q).map fun q => (i, q)
def isSp (sp : List (Nat × DSp)) (x : Nat × Nat) : Bool := (lookS sp x.1).isSome
def dLhs (T : Tab) (n : Nat) (ops : Array Oper) (sl : List (Nat × AV)) (D : DT) (x : Nat × Nat) : Option (Prop × Option (Nat × AV) × Heap) := match ops[x.1]? with
 | some o => evRG T n .dp ops ⟨vw ops D.es sl x.1, (D.Hs[x.2]?).getD []⟩ o
 | none => none
def dRhs (ns : List Nat) (D : DT) (x : Nat × Nat) : Option (Prop × Option (Nat × AV) × Heap) :=
 some ((D.fs[x.1]?).getD True, (D.es[x.1]?).getD none, (D.Hs[cond (memN x.1 ns) (x.2 + 1) x.2]?).getD [])
def dOut (T : Tab) (n : Nat) (ops : Array Oper) (ns : List Nat) (sp : List (Nat × DSp)) (keep π : List Nat) (s : St) : St :=
 (⟨fin ops (dD T n ops ns sp s).es s.sl, ((dD T n ops ns sp s).Hs[ns.length]?).getD []⟩ : St).ren keep π
section
variable {P : Program} {T : Tab} {n : Nat} {w0 : World} {E0 : Env0} {s s' s'' : St} {ops : Array Oper} {Q : Exit → St → Prop} {rest : List Oper} {sl view : List (Nat × AV)} {H H' : Heap}
theorem nf_some {l : List Oper} {φ : Prop} (h : nf T n ops l s = some φ) : evs T n ops .dp l s = some (φ, nx T n ops l s) := by
 unfold nf at h
 unfold nx
 split at h
 ·rename_i e
  simp only [Option.some.injEq] at h
  subst h
  rw [e]
 ·simp at h
theorem nN (hT : TabOk P T) {φ : Prop} (hφ : φ) (k : Q .normal (nx T n ops rest s)) (h : nf T n ops rest s = some φ := by kernel_rfl) : VO P n w0 E0 ops Q rest s := by
 have h1 : VO P n w0 E0 ops Q [] (nx T n ops rest s) := VO.nil k
 have := evs_run (rest := []) hT (nf_some h) hφ h1
 rwa [List.append_nil] at this
theorem nG (hT : TabOk P T) (j : Nat) {φ : Prop} (hφ : φ) (k : VO P n w0 E0 ops Q (rest.drop j) (nx T n ops (rest.take j) s)) (h : nf T n ops (rest.take j) s = some φ := by kernel_rfl) : VO P n w0 E0 ops Q rest s := by
 have := evs_run hT (nf_some h) hφ k
 rwa [List.take_append_drop] at this
theorem nR (hT : TabOk P T) {id : Nat} {y : Code} {φ : Prop} (hφ : φ) (k : VW P n w0 E0 y Q (nx T n ops ops.toList s)) (h : nf T n ops ops.toList s = some φ := by kernel_rfl) : VW P n w0 E0 (.seq (.region id ops false) y) Q s :=
 VW.seqVO (nN hT hφ k h)
theorem nE (hT : TabOk P T) {id : Nat} {φ : Prop} (hφ : φ) (k : Q .normal (nx T n ops ops.toList s)) (h : nf T n ops ops.toList s = some φ := by kernel_rfl) : VW P n w0 E0 (.region id ops false) Q s :=
 VW.region (nN hT hφ k h)
theorem Stp.evG {o : Oper} {φ : Prop} {e : Option (Nat × AV)} (hT : TabOk P T) (h : evRG T n .dp ops ⟨view, H⟩ o = some (φ, e, H')) (hφ : φ) : Stp P n w0 E0 ops Q o view H e H' := by
 unfold evRG at h
 split at h
 ·exact Stp.ev hT h hφ
 ·rename_i j want hg
  split at h
  ·rename_i g hj
   split at h
   ·rename_i d hd
    split at h
    ·rename_i b hb
     cases hw : b == want with
     | true => rw [hw] at h; exact Stp.on hg hj hd hb (by simpa using hw) (Stp.ev hT h hφ)
     | false =>
      rw [hw] at h
      simp only [cond_false] at h
      split at h
      ·rename_i e' he
       cases hn : Nat.blt e' n with
       | false => rw [hn] at h; simp at h
       | true =>
        rw [hn] at h
        simp only [cond_true, Option.some.injEq, Prod.mk.injEq] at h
        obtain ⟨_, rfl, rfl⟩ := h
        exact Stp.off hg hj hd hb (by simpa using hw) he (by simpa [Nat.blt_eq] using hn)
      ·simp at h
    ·rename_i hb
     split at h
     ·rename_i e' he
      cases hn : Nat.blt e' n with
      | false => rw [hn] at h; simp at h
      | true =>
       rw [hn] at h
       simp only [cond_true, Option.some.injEq, Prod.mk.injEq] at h
       obtain ⟨_, rfl, rfl⟩ := h
       exact Stp.off2 hg hj hd hb he (by simpa [Nat.blt_eq] using hn)
     ·simp at h
    ·simp at h
   ·simp at h
  ·simp at h
theorem AllP.of {α : Type} {f : α → Prop} : ∀ {l : List α}, (∀ x ∈ l, f x) → AllP f l
 | [], _ => trivial
 | y :: l, h => ⟨h y List.mem_cons_self, AllP.of fun x hx => h x (List.mem_cons_of_mem _ hx)⟩
theorem AllT.get : ∀ {l : List Prop} (i : Nat), AllT l → (l[i]?).getD True
 | [], i, _ => by simp
 | p :: l, 0, h => by simpa using h.1
 | p :: l, i + 1, h => by simpa using AllT.get i h.2
theorem dr (hT : TabOk P T) (sp : List (Nat × DSp)) (L : List (Nat × Nat)) (ns keep π : List Nat) {id : Nat} {φ : Prop} (hφ : φ) (hsp : AllP (StpAt P n w0 E0 ops Q s.sl (dD T n ops ns sp s).es ns (dD T n ops ns sp s).Hs) L)
  (k : Q .normal (dOut T n ops ns sp keep π s)) (hL : (dL ops ns).filter (isSp sp) = L := by kernel_rfl) (hm : P.follows .mixedOrders = true := by kernel_rfl) (h1 : AllT (dD T n ops ns sp s).fs = φ := by kernel_rfl)
  (hok : (drawOk ops (dD T n ops ns sp s).es ns (dL ops ns) && nodup π) = true := by kernel_rfl) (h0 : ((dD T n ops ns sp s).Hs[0]?).getD [] = s.H := by kernel_rfl)
  (h2 : ((dL ops ns).filter fun x => !isSp sp x).map (dLhs T n ops s.sl (dD T n ops ns sp s)) = ((dL ops ns).filter fun x => !isSp sp x).map (dRhs ns (dD T n ops ns sp s)) := by kernel_rfl) : VW P n w0 E0 (.region id ops true) Q s := by
 obtain ⟨hd, hn⟩ := Bool.and_eq_true_iff.1 hok
 refine VW.drawn hm _ ns _ (dL ops ns) keep π hd h0 (AllP.of fun x hx => ?_) (s' := dOut T n ops ns sp keep π s) (by rw [hn]; rfl) k
 cases hs : isSp sp x with
 | true => exact AllP.mem hsp x (hL ▸ List.mem_filter.2 ⟨hx, hs⟩)
 | false =>
  have h3 := List.map_inj_left.1 h2 x (List.mem_filter.2 ⟨hx, by rw [hs]; rfl⟩)
  unfold dLhs dRhs at h3
  split at h3
  ·rename_i o ho
   exact ⟨o, ho, Stp.evG hT h3 (AllT.get x.1 (h1 ▸ hφ))⟩
  ·simp at h3
def gOn (ops : Array Oper) (sl : List (Nat × AV)) (o : Oper) : Bool := match o.guard with
 | none => true
 | some (j, want) => match ops[j]? with
  | some g => match g.dst with
   | some d => match opnd sl (.tmp d) with
    | some (.lf (.v .bool b)) => b == want
    | _ => false
   | none => false
  | none => false
theorem Stp.gon {o : Oper} {e : Option (Nat × AV)} (hg : gOn ops view o = true) (h : Stp P n w0 E0 ops Q { o with guard := none } view H e H') : Stp P n w0 E0 ops Q o view H e H' := by
 unfold gOn at hg
 split at hg
 ·rename_i h1
  have : ({ o with guard := none } : Oper) = o := by rw [← h1]
  rwa [this] at h
 ·rename_i j want h1
  split at hg
  ·rename_i g hj
   split at hg
   ·rename_i d hd
    split at hg
    ·rename_i b hb
     exact Stp.on h1 hj hd hb (by simpa using hg) h
    ·simp at hg
   ·simp at hg
  ·simp at hg
def noneAt (H : Heap) (i : Nat) : Bool := match H[i]? with
 | some none => true
 | _ => false
def frOk : List Nat → St → Heap → Bool
 | [], _, _ => true
 | i :: l, s, H' => isArr s.H i && noneAt H' i && frOk l ⟨frzV s.sl s.H i, frzHp s.H i⟩ H'
theorem Stp.frs {o : Oper} {e : Option (Nat × AV)} : ∀ (fr : List Nat) {s : St}, frOk fr s H' = true → Stp P n w0 E0 ops Q o (Vc.frs fr s).sl (Vc.frs fr s).H e H' → Stp P n w0 E0 ops Q o s.sl s.H e H'
 | [], _, _, h => h
 | i :: l, s, hk, h => by
  simp only [frOk, Bool.and_eq_true] at hk
  refine Stp.frz i hk.1.1 (Stp.frs l hk.2 h) ?_
  have := hk.1.2
  unfold noneAt at this
  split at this
  ·assumption
  ·simp at this
theorem qC {es : List (Option (Nat × AV))} {ns : List Nat} {Hs : List Heap} {x : Nat × Nat} {o : Oper} (br : Bool) (tys cts : List PT) (fr : List Nat) (d : Option Nat) {f : FuncId} {ps : List AV} {rs : List RC} (hT : TabOk P T) (hc : Con P f ps rs)
  (ho : ops[x.1]? = some o := by rfl) (hg : gOn ops (vw ops es sl x.1) o = true := by kernel_rfl) (h : evArgs br tys cts n (frs fr ⟨vw ops es sl x.1, (Hs[x.2]?).getD []⟩) { o with guard := none } = some (d, f, ps) := by kernel_rfl) (hsel : (cond br (selfish rs) true) = true := by rfl)
  (h1 : (d.map fun d => (d, resA (frs fr ⟨vw ops es sl x.1, (Hs[x.2]?).getD []⟩).H.length rs)) = (es[x.1]?).getD none := by kernel_rfl) (h2 : (frs fr ⟨vw ops es sl x.1, (Hs[x.2]?).getD []⟩).H ++ ownsC rs = (Hs[cond (memN x.1 ns) (x.2 + 1) x.2]?).getD [] := by kernel_rfl)
  (h3 : frOk fr ⟨vw ops es sl x.1, (Hs[x.2]?).getD []⟩ ((Hs[cond (memN x.1 ns) (x.2 + 1) x.2]?).getD []) = true := by kernel_rfl) (ht : Tabs P w0 E0.toEnv := by assumption) : StpAt P n w0 E0 ops Q sl es ns Hs x :=
 ⟨o, ho, Stp.gon hg (Stp.frs fr h3 (Stp.eq (Stp.call br tys cts hT h hc hsel) h1 h2))⟩
theorem qE {es : List (Option (Nat × AV))} {ns : List Nat} {Hs : List Heap} {x : Nat × Nat} {o : Oper} (fr : List Nat) (hT : TabOk P T) {φ : Prop} (hφ : φ)
  (ho : ops[x.1]? = some o := by rfl) (hg : gOn ops (vw ops es sl x.1) o = true := by kernel_rfl) (h : evR T n .dp (frs fr ⟨vw ops es sl x.1, (Hs[x.2]?).getD []⟩) { o with guard := none } = some (φ, (es[x.1]?).getD none, (Hs[cond (memN x.1 ns) (x.2 + 1) x.2]?).getD []) := by kernel_rfl)
  (h3 : frOk fr ⟨vw ops es sl x.1, (Hs[x.2]?).getD []⟩ ((Hs[cond (memN x.1 ns) (x.2 + 1) x.2]?).getD []) = true := by kernel_rfl) : StpAt P n w0 E0 ops Q sl es ns Hs x :=
 ⟨o, ho, Stp.gon hg (Stp.frs fr h3 (Stp.ev hT h hφ))⟩
theorem qB {es : List (Option (Nat × AV))} {ns : List Nat} {Hs : List Heap} {x : Nat × Nat} {o : Oper} (d : Nat) {b c : Bool} (hb : b = c) (hT : TabOk P T) {φ : Prop} (hφ : φ)
  (ho : ops[x.1]? = some o := by rfl) (h : evRG T n .dp ops ⟨vw ops es sl x.1, (Hs[x.2]?).getD []⟩ o = some (φ, some (d, .lf (.v .bool b)), (Hs[x.2]?).getD []) := by kernel_rfl)
  (h1 : some (d, AV.lf (.v .bool c)) = (es[x.1]?).getD none := by kernel_rfl) (h2 : (Hs[x.2]?).getD [] = (Hs[cond (memN x.1 ns) (x.2 + 1) x.2]?).getD [] := by kernel_rfl) : StpAt P n w0 E0 ops Q sl es ns Hs x :=
 ⟨o, ho, Stp.eq (Stp.lit (Stp.evG hT h hφ) hb) h1 h2⟩
def stC (d : Option Nat) (rs : List RC) (s : St) : St := ⟨putA d (resA s.H.length rs) s.sl, s.H ++ ownsC rs⟩
def stB (d : Nat) (b : Bool) (s : St) : St := ⟨(d, .lf (.v .bool b)) :: s.sl, s.H⟩
theorem clc (br : Bool) (tys cts : List PT) {o : Oper} (d : Option Nat) {f : FuncId} {ps : List AV} {rs : List RC} (hT : TabOk P T) (hc : Con P f ps rs)
  (k : VO P n w0 E0 ops Q rest (stC d rs s)) (h : evArgs br tys cts n s o = some (d, f, ps) := by kernel_rfl) (hsel : (cond br (selfish rs) true) = true := by rfl) (ht : Tabs P w0 E0.toEnv := by assumption) :
  VO P n w0 E0 ops Q (o :: rest) s := VO.call br tys cts hT h hc hsel k
theorem spC (d : Nat) {b : Bool} {α : Type} {u v : Option α} {r : α} (h : cond b u v = some r) (h1 : u = some r → VO P n w0 E0 ops Q rest (stB d true s)) (h2 : v = some r → VO P n w0 E0 ops Q rest (stB d false s))
  (hb : look s.sl d = some (.lf (.v .bool b)) := by kernel_rfl) : VO P n w0 E0 ops Q rest s :=
 VO.splitB d hb (fun e => h1 (cond_t h e)) (fun e => h2 (cond_f h e))
theorem sq {x y : Code} (h : VW P n w0 E0 x (thenQ (VW P n w0 E0 y Q) Q) s) : VW P n w0 E0 (.seq x y) Q s := VW.seq h
end
theorem gS {α : Type} {φ : Prop} [Decidable φ] {x : Option α} {r : α} (h : gd φ x = some r) : φ ∧ x = some r := gd_some h
theorem aS {α β : Type} {x : Option α} {k : α → Option β} {r : β} (h : andO x k = some r) : ∃ a, x = some a ∧ k a = some r := andO_some h
abbrev hh (i : Nat) : AV := .lf (.hd i 0 none)
abbrev Vv (t : Ty) (x : t.den) : AV := .lf (.v t x)
end Go.Proofs.YtahgoingdfncbaaGreat.Vc
namespace Go.Proofs.YtahgoingdfncbaaGreat.Vc
open Go Go.RowKit Go.Sort
set_option linter.unusedVariables false
set_option linter.unusedSimpArgs false
section
variable {P : Program} {w w' : World} {E E' : Env} {μ μ' : Nat → Value} {H H' : Heap}
def unlend (E : Env) : Env := ⟨E.S, fun c => match E.κ c with
 | some (.id 0, q) => some (.res 0, q)
 | _ => none⟩
theorem unlend_some {c : Nat} (h : (unlend E).κ c ≠ none) : E.κ c ≠ none := by
 intro e
 apply h
 simp only [unlend, e]
theorem args1M {args : Array Value} {p : AV} (h : All2 (AR w E μ H) [p] args.toList) : ∃ y, args = #[y] ∧ AR w E μ H p y := by
 obtain ⟨l⟩ := args
 cases h with
 | cons h1 h2 =>
  cases h2
  exact ⟨_, rfl, h1⟩
theorem lent_ints {xs : List Int} (hM : MR w E μ [some (.arr 0 (.int .i64) xs .dp)] 0) : (xs = [] ∧ ∃ a, μ 0 = .slice a 0 0) ∨
  ∃ b c arr ty, μ 0 = .slice (some ⟨b, 0, none⟩) xs.length c ∧ xs.length ≤ c ∧ w.heap[b]? = some (.cells arr ty (0, 0)) ∧ arr.size = c ∧ E.κ b = some (.id 0, .top) ∧ arr.toList.take xs.length = xs.map (Value.int .i64) := by
 obtain ⟨_, h⟩ := hM.arr (id := 0) rfl
 rcases h with h | ⟨b, c, arr, ty, h1, h2, h3, h4, h5, h6⟩
 ·exact .inl h
 ·refine .inr ⟨b, c, arr, ty, h1, h2, h3, by simpa [Ty.lv] using h4, h5, ?_⟩
  apply List.ext_getElem?
  intro i
  by_cases hi : i < xs.length
  ·have := h6 i hi
   simp only [Rep, Ty.lv, Nat.mul_one, Nat.add_zero, cellAt, World.cell?, h3, Option.isSome_none, Bool.false_eq_true, if_false] at this
   rw [List.getElem?_take_of_lt hi, Array.getElem?_toList, this]
   simp [hi]
  ·rw [List.getElem?_take_eq_none (by omega), List.getElem?_eq_none (by simp; omega)]
theorem wrote_ints {b c n : Nat} {arr : Array Value} {ty : TypeId} {ys zs : List Int} {os : Array Obj} (hb : w.heap[b]? = some (.cells arr ty (0, 0))) (hsz : arr.size = c) (hy : ys.length ≤ zs.length) (hz : zs.length ≤ c) (hpre : zs.take ys.length = ys)
  (hw : w' = grow (putRow (Value.int .i64) (Sort.ahead w n) b 0 zs.toArray) os) :
  w'.os = w.os ∧ w'.tape = w.tape ∧ w'.output = w.output ∧ w.heap.size ≤ w'.heap.size ∧ (∀ k, k < w.heap.size → k ≠ b → w'.heap[k]? = w.heap[k]?) ∧ ∃ arr', w'.heap[b]? = some (.cells arr' ty (0, 0)) ∧ arr'.size = c ∧ ∀ i (h : i < ys.length), arr'[i]? = some (.int .i64 ys[i]) := by
 subst hw
 have hg := grownBy_sortedI (w := w) (g := b) (n := n) (os := os) zs.toArray
 have hh := heap_sortedI (n := n) (os := os) zs.toArray hb
 refine ⟨hg.os, hg.tape, hg.output, hg.size, fun k hk hne => hg.block k hk (fun e => hne (by simpa using e)), _, hh, by simpa [putCells] using hsz, fun i hi => ?_⟩
 have ht := take_putCellsI arr zs (by omega)
 have h1 : ((putCells (Value.int .i64) 0 zs.toArray arr).toList.take zs.length)[i]? = (zs.map (Value.int .i64))[i]? := by rw [ht]
 rw [List.getElem?_take_of_lt (by omega), Array.getElem?_toList] at h1
 rw [h1]
 have h2 : (zs.take ys.length)[i]? = ys[i]? := by rw [hpre]
 rw [List.getElem?_take_of_lt hi, List.getElem?_eq_getElem hi] at h2
 simp [h2]
theorem con_sort {f : FuncId} (he : ∀ args w, (callFunc f args).run P w = .ok (.enter f args) w) {xs : List Int} (hsz : xs.length < 4611686018427387904)
  (h0 : ∀ (p : Option Addr) (c : Nat) w, Calls P f #[.slice p 0 c] w fun e w' => e = .returned (.tuple #[]) ∧ w' = w)
  (h : ∀ (b c : Nat) w, Holds (Value.int .i64) w b 0 xs.toArray → b < w.heap.size → Calls P f #[.slice (some ⟨b, 0, none⟩) xs.length c] w fun e w' =>
   e = .returned (.tuple #[]) ∧ ∃ n os, w' = grow (putRow (Value.int .i64) (Sort.ahead w n) b 0 (xs.mergeSort fun x y => decide (x ≤ y)).toArray) os) :
  ConM P f [some (.arr 0 (.int .i64) xs .dp)] [.lf (.hd 0 0 none)] [] [some (.arr 0 (.int .i64) (xs.mergeSort fun x y => decide (x ≤ y)) .dp)] := by
 refine ⟨he, fun w E μ args hM ht hargs => ?_⟩
 obtain ⟨y, rfl, hy⟩ := args1M hargs
 have hy : y = μ 0 := hy.2.2 rfl
 subst hy
 have hl : (xs.mergeSort fun x y => decide (x ≤ y)).length = xs.length := List.length_mergeSort _
 rcases lent_ints hM with ⟨rfl, a, ha⟩ | ⟨b, c, arr, ty, h1, h2, h3, h4, h5, h6⟩
 ·rw [ha]
  refine (h0 a 0 w).mono ?_
  rintro e w' ⟨rfl, rfl⟩
  rw [show ([] : List Int).mergeSort (fun x y => decide (x ≤ y)) = [] by simp]
  exact ⟨_, E, μ, rfl, Ext.refl _ _, hM, fun _ _ _ => rfl, #[], rfl, trivial⟩
 ·rw [h1]
  have hlt : b < w.heap.size := (Array.getElem?_eq_some_iff.1 h3).1
  refine (h b c w (holds_of_blockI h3 h6) hlt).mono ?_
  rintro e w' ⟨rfl, n, os, hw⟩
  obtain ⟨k1, k2, k3, k4, k5, arr', k6, k7, k8⟩ := wrote_ints (ys := xs.mergeSort fun x y => decide (x ≤ y)) (zs := xs.mergeSort fun x y => decide (x ≤ y)) h3 h4 (Nat.le_refl _) (by omega) (List.take_of_length_le (Nat.le_refl _)) hw
  have hX : Ext w E w' E := ⟨k1, k2, k3, k4, fun c hc hn => k5 c hc (fun e => by rw [e, h5] at hn; cases hn), fun _ h => h, fun _ h => .inl h, fun _ h => .inl h⟩
  refine ⟨_, E, μ, rfl, hX, ⟨hM.apart, fun c hc => Nat.lt_of_lt_of_le (hM.ltS c hc) k4, fun c hc => Nat.lt_of_lt_of_le (hM.ltκ c hc) k4, fun c r q hc => ?_, fun i blk hi => ?_⟩, fun _ _ _ => rfl, #[], rfl, trivial⟩
  ·rcases hM.roots c r q hc with ⟨m, g1, g2⟩ | ⟨m, _, g2⟩
   ·exact .inl ⟨m, g1, by simpa using g2⟩
   ·omega
  ·cases i with
   | zero =>
    simp only [List.getElem?_cons_zero, Option.some.injEq] at hi
    subst hi
    refine ⟨by simp, μ 0, by simp [at0], .inr ⟨by simp, .inr ⟨b, c, arr', ty, by rw [h1, hl], by omega, k6, by simpa [Ty.lv] using k7, h5, fun j hj => ?_⟩⟩⟩
    have := k8 j hj
    simp only [Rep, Ty.lv, Nat.mul_one, Nat.add_zero, cellAt, World.cell?, k6, Option.isSome_none, Bool.false_eq_true, if_false]
    exact this
   | succ i => simp at hi
theorem compact_le (xs : List Int) : (Lib.compact xs).length ≤ xs.length := by
 unfold Lib.compact Lib.compactUpTo
 rw [List.length_map]
 refine Nat.le_trans (List.length_filter_le _ _) ?_
 simp
theorem con_compact {f : FuncId} (he : ∀ args w, (callFunc f args).run P w = .ok (.enter f args) w) {xs : List Int} (hsz : xs.length ≤ 9223372036854775807)
  (h0 : ∀ (p : Option Addr) (c : Nat) w, Calls P f #[.slice p 0 c] w fun e w' => e = .returned (.slice p 0 c) ∧ w' = w)
  (h : ∀ (b c : Nat) w, Holds (Value.int .i64) w b 0 xs.toArray → xs.length ≤ c → Calls P f #[.slice (some ⟨b, 0, none⟩) xs.length c] w fun e w' =>
   e = .returned (.slice (some ⟨b, 0, none⟩) (Lib.compact xs).length c) ∧ ∃ q, w' = putRow (Value.int .i64) (Sort.ahead w q) b 0 (Lib.compact xs ++ List.replicate (xs.length - (Lib.compact xs).length) 0).toArray) :
  ConM P f [some (.arr 0 (.int .i64) xs .dp)] [.lf (.hd 0 0 none)] [.lf (.own (.int .i64) (Lib.compact xs) .dp)] [none] := by
 have hcl := compact_le xs
 have hc0 : Lib.compact ([] : List Int) = [] := rfl
 refine ⟨he, fun w E μ args hM ht hargs => ?_⟩
 obtain ⟨y, rfl, hy⟩ := args1M hargs
 have hy : y = μ 0 := hy.2.2 rfl
 subst hy
 -- what was lent is handed out
 have key : ∀ (w' : World) (y : Value), Ext w E w' E → Rep w' (unlend E) (.res 0) (.sl (.int .i64)) (Lib.compact xs) .dp (fun _ => .top) (at0 y) → ∃ y' E' μ', Ending.returned y = .returned y' ∧ Ext w E w' E' ∧ MR w' E' μ' [none] (cntC [.lf (.own (.int .i64) (Lib.compact xs) .dp)]) ∧ (∀ k blk, ([none] : Heap)[k]? = some (some blk) → μ' k = μ k) ∧ RR w' E' [.lf (.own (.int .i64) (Lib.compact xs) .dp)] y' := by
  intro w' y hX hR
  refine ⟨y, unlend E, μ, rfl, ⟨hX.os, hX.tape, hX.output, hX.size, hX.block, hX.grow, hX.from_, fun c hc => hX.own c (unlend_some hc)⟩, ⟨fun c hc => ?_, fun c hc => Nat.lt_of_lt_of_le (hM.ltS c hc) hX.size, fun c hc => Nat.lt_of_lt_of_le (hM.ltκ c (unlend_some hc)) hX.size, fun c r q hc => ?_, fun i blk hi => ?_⟩, fun k blk hi => ?_, ⟨⟨by simp, hR⟩, trivial⟩, trivial⟩
  ·have := hM.apart c hc
   simp only [unlend, this]
  ·simp only [unlend] at hc
   split at hc
   ·simp only [Option.some.injEq, Prod.mk.injEq] at hc
    exact .inr ⟨0, hc.1.symm, by simp [cntC, cnt, RC.ls]⟩
   ·cases hc
  ·cases i with
   | zero => simp at hi
   | succ i => simp at hi
  ·cases k with
   | zero => simp at hi
   | succ i => simp at hi
 rcases lent_ints hM with ⟨rfl, a, ha⟩ | ⟨b, c, arr, ty, h1, h2, h3, h4, h5, h6⟩
 ·rw [ha]
  refine (h0 a 0 w).mono ?_
  rintro e w' ⟨rfl, rfl⟩
  refine key _ _ (Ext.refl _ _) ?_
  rw [hc0]
  exact ⟨_, by simp [at0], .inr ⟨by simp, .inl ⟨rfl, a, rfl⟩⟩⟩
 ·rw [h1]
  have hlt : b < w.heap.size := (Array.getElem?_eq_some_iff.1 h3).1
  refine (h b c w (holds_of_blockI h3 h6) h2).mono ?_
  rintro e w' ⟨rfl, q, hw⟩
  have hzl : (Lib.compact xs ++ List.replicate (xs.length - (Lib.compact xs).length) 0).length = xs.length := by simp; omega
  obtain ⟨k1, k2, k3, k4, k5, arr', k6, k7, k8⟩ := wrote_ints (w' := w') (n := q) (os := #[]) (ys := Lib.compact xs) (zs := Lib.compact xs ++ List.replicate (xs.length - (Lib.compact xs).length) 0) h3 h4 (by omega) (by omega) (by simp) (by rw [hw]; rfl)
  have hX : Ext w E w' E := ⟨k1, k2, k3, k4, fun c hc hn => k5 c hc (fun e => by rw [e, h5] at hn; cases hn), fun _ h => h, fun _ h => .inl h, fun _ h => .inl h⟩
  refine key _ _ hX ⟨_, by simp [at0], .inr ⟨by simp, .inr ⟨b, c, arr', ty, rfl, by omega, k6, by simpa [Ty.lv] using k7, by simp only [unlend, h5], fun j hj => ?_⟩⟩⟩
  have := k8 j hj
  simp only [Rep, Ty.lv, Nat.mul_one, Nat.add_zero, cellAt, World.cell?, k6, Option.isSome_none, Bool.false_eq_true, if_false]
  exact this
end
end Go.Proofs.YtahgoingdfncbaaGreat.Vc
namespace Go.Proofs.YtahgoingdfncbaaGreat.Vc
open Go Go.RowKit
set_option linter.unusedVariables false
set_option linter.unusedSimpArgs false
structure R5 where
 pr : Int
 ta : Option Addr
 tn : Nat
 tc : Nat
 pa : Option Addr
 pn : Nat
 pc : Nat
 ec : Int
 es : Int
def R5.out (cat st : Int) (x : R5) : Bool := decide (x.ec ≠ cat) || decide (x.es ≠ st)
def At5 (w : World) (b k : Nat) (x : R5) : Prop :=
 w.cell? ⟨b, k, none⟩ = some (.int .i64 x.pr) ∧ w.cell? ⟨b, k + 1, none⟩ = some (.slice x.ta x.tn x.tc) ∧ w.cell? ⟨b, k + 2, none⟩ = some (.slice x.pa x.pn x.pc) ∧ w.cell? ⟨b, k + 3, none⟩ = some (.int .i64 x.ec) ∧ w.cell? ⟨b, k + 4, none⟩ = some (.int .i64 x.es)
theorem At5.keep {w w' : World} {b k : Nat} {x : R5} (h : At5 w b k x) (hB : w'.heap[b]? = w.heap[b]?) : At5 w' b k x := by
 unfold At5 at h ⊢
 have e : ∀ j, w'.cell? ⟨b, j, none⟩ = w.cell? ⟨b, j, none⟩ := fun j => World.cell?_of_block (a := ⟨b, j, none⟩) hB
 rw [e, e, e, e, e]
 exact h
def idx5 (cat st : Int) : List R5 → Nat → Int
 | [], _ => -1
 | x :: l, i => if x.out cat st then (i : Int) else idx5 cat st l (i + 1)
structure Fr (w : World) (b : Nat) (ty : TypeId) (sz : Nat) (w' : World) : Prop where
 os : w'.os = w.os
 tape : w'.tape = w.tape
 output : w'.output = w.output
 size : w.heap.size ≤ w'.heap.size
 block : ∀ k, k < w.heap.size → k ≠ b → w'.heap[k]? = w.heap[k]?
 own : ∃ cur : Array Value, w'.heap[b]? = some (.cells cur ty (0, 0)) ∧ cur.size = sz
theorem Fr.below {w w1 w2 : World} {b ty sz} (h : Fr w b ty sz w1) (hb : b < w.heap.size) (hB : Below w1.heap.size w1 w2) : Fr w b ty sz w2 := by
 obtain ⟨cur, h1, h2⟩ := h.own
 have e : ∀ k, k < w.heap.size → w2.heap[k]? = w1.heap[k]? := fun k hk => hB.block k (Nat.lt_of_lt_of_le hk h.size)
 exact ⟨hB.os.trans h.os, hB.tape.trans h.tape, hB.output.trans h.output, Nat.le_trans h.size hB.size, fun k hk hne => (e k hk).trans (h.block k hk hne), cur, (e b hb).trans h1, h2⟩
theorem Fr.lt {w w1 : World} {b ty sz} (h : Fr w b ty sz w1) : b < w1.heap.size := by
 obtain ⟨cur, h1, _⟩ := h.own
 exact (Array.getElem?_eq_some_iff.1 h1).1
theorem Fr.froz {w w1 : World} {b ty sz} (h : Fr w b ty sz w1) {k : Nat} (hk : k < sz) : w1.frozen? ⟨b, k, none⟩ = false ∧ ∃ v, w1.cell? ⟨b, k, none⟩ = some v := by
 obtain ⟨cur, h1, h2⟩ := h.own
 refine ⟨by simp [World.frozen?, h1], cur[k], ?_⟩
 simp [World.cell?, h1, h2, hk]
theorem Fr.set {w w1 : World} {b ty sz} (h : Fr w b ty sz w1) (k : Nat) (v : Value) : Fr w b ty sz (w1.setCell ⟨b, k, none⟩ v) := by
 obtain ⟨cur, h1, h2⟩ := h.own
 have hs : (w1.setCell ⟨b, k, none⟩ v).heap.size = w1.heap.size := by simp [World.setCell]
 refine ⟨h.os, h.tape, h.output, by rw [hs]; exact h.size, fun j hj hne => ?_, cur.setIfInBounds k v, heap_setCell_same _ _ _ _ _ _ h1, by simp [h2]⟩
 rw [heap_setCell_other _ _ _ _ (by simpa using hne)]
 exact h.block j hj hne
theorem Fr.row {w w1 : World} {b ty sz} (h : Fr w b ty sz w1) {cur arr : Array Value} (hc : w1.heap[b]? = some (.cells cur ty (0, 0))) (ha : arr.size = sz) : Fr w b ty sz (w1.setRow b arr) := by
 have hs : (w1.setRow b arr).heap.size = w1.heap.size := by simp [World.setRow]
 refine ⟨h.os, h.tape, h.output, by rw [hs]; exact h.size, fun j hj hne => ?_, arr, setRow_heap w1 b cur arr ty (0, 0) hc, ha⟩
 rw [← h.block j hj hne]
 simp only [World.setRow, Array.getElem?_modify]
 rw [if_neg (fun e => hne e.symm)]
def put5 (w : World) (b k : Nat) (x : R5) : World :=
 ((((w.setCell ⟨b, k, none⟩ (.int .i64 x.pr)).setCell ⟨b, k + 1, none⟩ (.slice x.ta x.tn x.tc)).setCell ⟨b, k + 2, none⟩ (.slice x.pa x.pn x.pc)).setCell ⟨b, k + 3, none⟩ (.int .i64 x.ec)).setCell ⟨b, k + 4, none⟩ (.int .i64 x.es)
theorem put5_fr {w w1 : World} {b ty sz} (h : Fr w b ty sz w1) (k : Nat) (x : R5) : Fr w b ty sz (put5 w1 b k x) := ((((h.set k _).set _ _).set _ _).set _ _).set _ _
theorem put5_out {w : World} {b k j : Nat} {x : R5} (h : j < k ∨ k + 5 ≤ j) : (put5 w b k x).cell? ⟨b, j, none⟩ = w.cell? ⟨b, j, none⟩ := by
 unfold put5
 have e : ∀ (W : World) (i : Nat) (v : Value), i ≠ j → (W.setCell ⟨b, i, none⟩ v).cell? ⟨b, j, none⟩ = W.cell? ⟨b, j, none⟩ := fun W i v hne => World.cell?_setCell_other _ _ _ _ (by intro e; injection e with _ e; exact hne e)
 rw [e _ _ _ (by omega), e _ _ _ (by omega), e _ _ _ (by omega), e _ _ _ (by omega), e _ _ _ (by omega)]
theorem put5_in {w w1 : World} {b k sz : Nat} {ty : TypeId} {x : R5} (h : Fr w b ty sz w1) (hk : k + 5 ≤ sz) : At5 (put5 w1 b k x) b k x := by
 have e : ∀ (W : World) (i j : Nat) (v : Value), i ≠ j → (W.setCell ⟨b, i, none⟩ v).cell? ⟨b, j, none⟩ = W.cell? ⟨b, j, none⟩ := fun W i j v hne => World.cell?_setCell_other _ _ _ _ (by intro e; injection e with _ e; exact hne e)
 have s : ∀ {W : World}, Fr w b ty sz W → ∀ (i : Nat) (v : Value), i < sz → (W.setCell ⟨b, i, none⟩ v).cell? ⟨b, i, none⟩ = some v := fun hW i v hi => by
  obtain ⟨_, u, hu⟩ := hW.froz hi
  exact World.cell?_setCell_same _ _ _ hu
 have h1 := h.set k (.int .i64 x.pr)
 have h2 := h1.set (k + 1) (.slice x.ta x.tn x.tc)
 have h3 := h2.set (k + 2) (.slice x.pa x.pn x.pc)
 have h4 := h3.set (k + 3) (.int .i64 x.ec)
 unfold put5 At5
 refine ⟨?_, ?_, ?_, ?_, ?_⟩
 ·rw [e _ _ _ _ (by omega), e _ _ _ _ (by omega), e _ _ _ _ (by omega), e _ _ _ _ (by omega)]; exact s h _ _ (by omega)
 ·rw [e _ _ _ _ (by omega), e _ _ _ _ (by omega), e _ _ _ _ (by omega)]; exact s h1 _ _ (by omega)
 ·rw [e _ _ _ _ (by omega), e _ _ _ _ (by omega)]; exact s h2 _ _ (by omega)
 ·rw [e _ _ _ _ (by omega)]; exact s h3 _ _ (by omega)
 ·exact s h4 _ _ (by omega)
theorem put5_at {w : World} {b k j : Nat} {x y : R5} (h : At5 w b j y) (hj : j + 5 ≤ k ∨ k + 5 ≤ j) : At5 (put5 w b k x) b j y := by
 unfold At5 at h ⊢
 rw [put5_out (by omega), put5_out (by omega), put5_out (by omega), put5_out (by omega), put5_out (by omega)]
 exact h
theorem box5 {wr w' : World} {v0 v1 v2 v3 v4 : Value} {t : TypeId} (hb : Below (wr.alloc (.cells #[v0, v1, v2, v3, v4] t)).heap.size (wr.alloc (.cells #[v0, v1, v2, v3, v4] t)) w') :
  Below wr.heap.size wr w' ∧ w'.cell? ⟨wr.heap.size, 0, none⟩ = some v0 ∧ w'.cell? ⟨wr.heap.size, 1, none⟩ = some v1 ∧ w'.cell? ⟨wr.heap.size, 2, none⟩ = some v2 ∧ w'.cell? ⟨wr.heap.size, 3, none⟩ = some v3 ∧ w'.cell? ⟨wr.heap.size, 4, none⟩ = some v4 := by
 have h0 : Below wr.heap.size wr (wr.alloc (.cells #[v0, v1, v2, v3, v4] t)) := (Below.refl _ _).alloc (Nat.le_refl _) _
 have hn := heap_alloc_new wr (.cells #[v0, v1, v2, v3, v4] t)
 have hs : wr.heap.size < (wr.alloc (.cells #[v0, v1, v2, v3, v4] t)).heap.size := (Array.getElem?_eq_some_iff.1 hn).1
 have hw := (hb.block _ hs).trans hn
 refine ⟨h0.trans (hb.mono h0.size), ?_, ?_, ?_, ?_, ?_⟩ <;> simp [World.cell?, hw]
structure Mid (keep : R5 → Bool) (L Cur : List R5) (i j : Nat) : Prop where
 len : Cur.length = L.length
 ij : i < j
 jn : j ≤ L.length
 kept : Cur.take i = (L.take j).filter keep
 rest : Cur.drop j = L.drop j
theorem Mid.move {keep : R5 → Bool} {L Cur : List R5} {i j : Nat} (h : Mid keep L Cur i j) {x : R5} (hx : L[j]? = some x) (hk : keep x = true) : Mid keep L (Cur.set i x) (i + 1) (j + 1) := by
 obtain ⟨hj, rfl⟩ := List.getElem?_eq_some_iff.1 hx
 have h1 := h.len
 have h2 := h.ij
 refine ⟨by rw [List.length_set]; exact h1, by omega, by omega, ?_, ?_⟩
 ·rw [List.take_succ_eq_append_getElem (by rw [List.length_set]; omega), List.take_set_of_le (Nat.le_refl _), h.kept, List.getElem_set_self, List.take_succ_eq_append_getElem hj, List.filter_append]
  simp [hk]
 ·rw [List.drop_set_of_lt (by omega)]
  have := congrArg (List.drop 1) h.rest
  rw [List.drop_drop, List.drop_drop] at this
  exact this
theorem Mid.skip {keep : R5 → Bool} {L Cur : List R5} {i j : Nat} (h : Mid keep L Cur i j) {x : R5} (hx : L[j]? = some x) (hk : keep x = false) : Mid keep L Cur i (j + 1) := by
 obtain ⟨hj, rfl⟩ := List.getElem?_eq_some_iff.1 hx
 have h2 := h.ij
 refine ⟨h.len, by omega, by omega, ?_, ?_⟩
 ·rw [h.kept, List.take_succ_eq_append_getElem hj, List.filter_append]
  simp [hk]
 ·have := congrArg (List.drop 1) h.rest
  rw [List.drop_drop, List.drop_drop] at this
  exact this
abbrev E5 (a a' : Ty) : Ty := .pair (.int .i64) (.pair (.sl a) (.pair (.sl a') (.pair (.int .i64) (.int .i64))))
theorem Rep.pcg {w : World} {E : Env} {r : Root} : ∀ (t : Ty) (x : t.den) (m : Md) (p p' : Nat → Pos) (g : Nat → Option Value), (∀ j, j < t.lv → p j = p' j) → Rep w E r t x m p g → Rep w E r t x m p' g
 | .int _, _, _, _, _, _, _, h => h
 | .bool, _, _, _, _, _, _, h => h
 | .str, _, _, _, _, _, _, h => h
 | .pair a b, x, m, p, p', g, hp, h =>
  ⟨Rep.pcg a x.1 m p p' g (fun j hj => hp j (by simp only [Ty.lv]; omega)) h.1, Rep.pcg b x.2 m _ _ _ (fun j hj => hp (j + a.lv) (by simp only [Ty.lv]; omega)) h.2⟩
 | .sl t, xs, m, p, p', g, hp, h => by
  have e := hp 0 (by simp [Ty.lv])
  obtain ⟨v, h0, h⟩ := h
  refine ⟨v, h0, ?_⟩
  rw [← e]
  exact h
theorem sl_val {w : World} {E : Env} {r : Root} {t : Ty} {xs : List t.den} {m : Md} {p : Nat → Pos} {g : Nat → Option Value} (h : Rep w E r (.sl t) xs m p g) : ∃ ad n c, g 0 = some (.slice ad n c) := by
 obtain ⟨v, h0, h⟩ := h
 rcases h with ⟨_, ⟨_, a, c, rfl⟩ | ⟨b, o, c, rfl, _⟩⟩ | ⟨_, ⟨_, a, rfl⟩ | ⟨b, c, arr, ty, rfl, _⟩⟩
 ·exact ⟨_, _, _, h0⟩
 ·exact ⟨_, _, _, h0⟩
 ·exact ⟨_, _, _, h0⟩
 ·exact ⟨_, _, _, h0⟩
theorem row5 {w : World} {E : Env} {r : Root} {a a' : Ty} {x : (E5 a a').den} {m : Md} {p : Nat → Pos} {b k : Nat} (h : Rep w E r (E5 a a') x m p (fun j => cellAt w b (k + j))) : ∃ y : R5, At5 w b k y ∧ y.ec = x.2.2.2.1 ∧ y.es = x.2.2.2.2 := by
 obtain ⟨h0, h1, h2, h3, h4⟩ := h
 obtain ⟨ta, tn, tc, e1⟩ := sl_val h1
 obtain ⟨pa, pn, pc, e2⟩ := sl_val h2
 exact ⟨⟨x.1, ta, tn, tc, pa, pn, pc, x.2.2.2.1, x.2.2.2.2⟩, ⟨h0, e1, e2, h3, h4⟩, rfl, rfl⟩
theorem rows5 {w : World} {E : Env} {r : Root} {a a' : Ty} {xs : List (E5 a a').den} {m : Md} {b : Nat} (h : ∀ i (hi : i < xs.length), Rep w E r (E5 a a') xs[i] m (fun j => .inside b (i * 5 + j)) (fun j => cellAt w b (i * 5 + j))) :
  ∃ L : List R5, L.length = xs.length ∧ ∀ i (hi : i < xs.length) (hl : i < L.length), At5 w b (i * 5) L[i] ∧ L[i].ec = (xs[i]).2.2.2.1 ∧ L[i].es = (xs[i]).2.2.2.2 := by
 have h1 : ∀ i : Fin xs.length, ∃ y : R5, At5 w b (i.1 * 5) y ∧ y.ec = (xs[i.1]).2.2.2.1 ∧ y.es = (xs[i.1]).2.2.2.2 := fun i => row5 (h i.1 i.2)
 obtain ⟨f, hf⟩ := Classical.axiomOfChoice h1
 refine ⟨List.ofFn f, by simp, fun i hi hl => ?_⟩
 rw [List.getElem_ofFn]
 exact hf ⟨i, hi⟩
def kpt {α : Type} (p : α → Bool) (d : α) (l : List α) : List Nat := (List.range l.length).filter fun i => p (l.getD i d)
theorem kpt_map {α : Type} (p : α → Bool) (d : α) (l : List α) : l.filter p = (kpt p d l).map fun i => l.getD i d := by
 have e : l = (List.range l.length).map fun i => l.getD i d := by
  apply List.ext_getElem
  ·simp
  ·intro i h1 h2
   simp [List.getD, h1]
 conv => lhs; rw [e]
 rw [List.filter_map]
 rfl
theorem kpt_lt {α : Type} {p : α → Bool} {d : α} {l : List α} {i : Nat} (h : i ∈ kpt p d l) : i < l.length := by
 have := (List.mem_filter.1 h).1
 simpa using this
theorem kpt_nodup {α : Type} (p : α → Bool) (d : α) (l : List α) : (kpt p d l).Nodup := List.nodup_range.filter _
theorem kpt_congr {α β : Type} {p : α → Bool} {q : β → Bool} {d : α} {d' : β} {l : List α} {l' : List β} (hl : l.length = l'.length) (h : ∀ i, i < l.length → p (l.getD i d) = q (l'.getD i d')) : kpt p d l = kpt q d' l' := by
 unfold kpt
 rw [← hl]
 apply List.filter_congr
 intro i hi
 exact h i (by simpa using hi)
def kap (κ : Nat → Option (Root × Pos)) (rt : Root) (b : Nat) (K : List Nat) : Nat → Option (Root × Pos) := fun c => match κ c with
 | some (r, .inside b' k) => if b' = b ∧ r = rt then (if k / 5 ∈ K then some (r, .inside b (K.idxOf (k / 5) * 5 + k % 5)) else none) else some (r, .inside b' k)
 | o => o
theorem kap_none {κ : Nat → Option (Root × Pos)} {rt : Root} {b : Nat} {K : List Nat} {c : Nat} (h : κ c = none) : kap κ rt b K c = none := by
 unfold kap; rw [h]
theorem kap_ne {κ : Nat → Option (Root × Pos)} {rt : Root} {b : Nat} {K : List Nat} {c : Nat} (h : kap κ rt b K c ≠ none) : κ c ≠ none := fun e => h (kap_none e)
theorem kap_top {κ : Nat → Option (Root × Pos)} {rt r : Root} {b : Nat} {K : List Nat} {c : Nat} (h : κ c = some (r, .top)) : kap κ rt b K c = some (r, .top) := by
 unfold kap; rw [h]
theorem kap_root {κ : Nat → Option (Root × Pos)} {rt r : Root} {b : Nat} {K : List Nat} {c : Nat} {q : Pos} (h : kap κ rt b K c = some (r, q)) : ∃ q', κ c = some (r, q') := by
 unfold kap at h
 split at h
 ·rename_i r' b' k e
  split at h
  ·split at h
   ·injection h with h; injection h with h1 h2; subst h1; exact ⟨_, e⟩
   ·cases h
  ·injection h with h; injection h with h1 h2; subst h1; exact ⟨_, e⟩
 ·exact ⟨_, h⟩
theorem kap_other {κ : Nat → Option (Root × Pos)} {rt r : Root} {b : Nat} {K : List Nat} {c : Nat} {q : Pos} (h : κ c = some (r, q)) (hq : r ≠ rt ∨ ∀ k, q ≠ .inside b k) : kap κ rt b K c = some (r, q) := by
 unfold kap
 rw [h]
 cases q with
 | top => rfl
 | inside b' k =>
  simp only
  rw [if_neg]
  rintro ⟨rfl, rfl⟩
  rcases hq with hq | hq
  ·exact hq rfl
  ·exact hq k rfl
theorem kap_row {κ : Nat → Option (Root × Pos)} {rt : Root} {b : Nat} {K : List Nat} {c i j : Nat} (h : κ c = some (rt, .inside b (i * 5 + j))) (hj : j < 5) (hi : i ∈ K) : kap κ rt b K c = some (rt, .inside b (K.idxOf i * 5 + j)) := by
 unfold kap
 rw [h]
 simp [show (i * 5 + j) / 5 = i by omega, show (i * 5 + j) % 5 = j by omega, hi]
theorem moved5 {w w4 : World} {E : Env} {rt : Root} {a a' : Ty} {x : (E5 a a').den} {b i : Nat} {K : List Nat} (hi : i ∈ K) (hκb : E.κ b = some (rt, .top)) (hSκ : ∀ c, E.S c → E.κ c = none)
  (hfr : ∀ c, c ≠ b → (E.S c ∨ E.κ c ≠ none) → w4.heap[c]? = w.heap[c]?) (hc : ∀ j, j < 5 → cellAt w4 b (K.idxOf i * 5 + j) = cellAt w b (i * 5 + j))
  (h : Rep w E rt (E5 a a') x .dp (fun j => .inside b (i * 5 + j)) (fun j => cellAt w b (i * 5 + j))) :
  Rep w4 ⟨E.S, kap E.κ rt b K⟩ rt (E5 a a') x .dp (fun j => .inside b (K.idxOf i * 5 + j)) (fun j => cellAt w4 b (K.idxOf i * 5 + j)) := by
 have hlv : (E5 a a').lv = 5 := rfl
 let A : Pos → Prop := fun q => match q with | .top => False | .inside b' k => b' ≠ b ∨ ∃ j, j < 5 ∧ k = i * 5 + j
 let f : Pos → Pos := fun q => match q with | .top => .top | .inside b' k => if b' = b then .inside b (K.idxOf i * 5 + (k - i * 5)) else .inside b' k
 have h1 := Rep.pcg _ _ _ _ (fun j => if j < 5 then .inside b (i * 5 + j) else .inside b (i * 5)) _ (fun j hj => by rw [hlv] at hj; exact (if_pos hj).symm) h
 have h2 := Rep.move (w := w) (w' := w4) (E := E) (E' := ⟨E.S, kap E.κ rt b K⟩) (r := rt) (r' := rt) A f
  (fun c hc' => ⟨hc', hfr c (fun e => by subst e; have := hSκ _ hc'; rw [hκb] at this; cases this) (.inl hc')⟩)
  (fun c q hA hk => by
   have hcb : c ≠ b := fun e => by subst e; rw [hκb] at hk; injection hk with hk; injection hk with _ hk; subst hk; exact hA
   refine ⟨?_, hfr c hcb (.inr (by rw [hk]; simp)), fun k => ⟨.inl hcb, ?_⟩⟩
   ·cases q with
    | top => exact hA.elim
    | inside b' k =>
     rcases hA with hne | ⟨j, hj, rfl⟩
     ·show kap E.κ rt b K c = some (rt, f (.inside b' k))
      rw [kap_other hk (.inr fun k' e => by injection e with e; exact hne e)]
      simp only [f]
      rw [if_neg hne]
     ·by_cases hb : b' = b
      ·subst hb
       show kap E.κ rt b' K c = some (rt, f (.inside b' (i * 5 + j)))
       rw [kap_row hk hj hi]
       simp only [f, if_true]
       congr 3; omega
      ·show kap E.κ rt b K c = some (rt, f (.inside b' (i * 5 + j)))
       rw [kap_other hk (.inr fun k' e => by injection e with e; exact hb e)]
       simp only [f]
       rw [if_neg hb]
   ·simp only [f]
    rw [if_neg hcb])
  _ _ .dp _ (fun j => if j < 5 then .inside b (K.idxOf i * 5 + j) else .inside b (K.idxOf i * 5)) _ (fun j => cellAt w4 b (K.idxOf i * 5 + j))
  (fun _ => ⟨fun j => by
   by_cases hj : j < 5
   ·simp only [A]; rw [if_pos hj]; exact .inr ⟨j, hj, rfl⟩
   ·simp only [A]; rw [if_neg hj]; exact .inr ⟨0, by omega, rfl⟩, fun j => by
   by_cases hj : j < 5
   ·simp only [f]; rw [if_pos hj, if_pos hj]; simp only [if_true]; congr 1; omega
   ·simp only [f]; rw [if_neg hj, if_neg hj]; simp only [if_true]; congr 1; omega⟩)
  (fun j v hj hv => by rw [hlv] at hj; rw [hc j hj]; exact hv) h1
 exact Rep.pcg _ _ _ _ _ _ (fun j hj => by rw [hlv] at hj; exact if_pos hj) h2
theorem stays5 {w w4 : World} {E : Env} {rt r : Root} {t : Ty} {x : t.den} {b : Nat} {K : List Nat} (hr : r ≠ rt) (hκb : E.κ b = some (rt, .top)) (hSκ : ∀ c, E.S c → E.κ c = none)
  (hfr : ∀ c, c ≠ b → (E.S c ∨ E.κ c ≠ none) → w4.heap[c]? = w.heap[c]?) {m : Md} {p : Nat → Pos} {g : Nat → Option Value} (h : Rep w E r t x m p g) : Rep w4 ⟨E.S, kap E.κ rt b K⟩ r t x m p g :=
 Rep.move (w := w) (w' := w4) (E := E) (E' := ⟨E.S, kap E.κ rt b K⟩) (r := r) (r' := r) (fun _ => True) id
  (fun c hc' => ⟨hc', hfr c (fun e => by subst e; have := hSκ _ hc'; rw [hκb] at this; cases this) (.inl hc')⟩)
  (fun c q _ hk => ⟨kap_other hk (.inl hr), hfr c (fun e => by subst e; rw [hκb] at hk; injection hk with hk; injection hk with hk _; exact hr hk.symm) (.inr (by rw [hk]; simp)), fun k => ⟨trivial, rfl⟩⟩)
  t x m p p g g (fun _ => ⟨fun _ => trivial, fun _ => rfl⟩) (fun _ _ _ h => h) h
end Go.Proofs.YtahgoingdfncbaaGreat.Vc
