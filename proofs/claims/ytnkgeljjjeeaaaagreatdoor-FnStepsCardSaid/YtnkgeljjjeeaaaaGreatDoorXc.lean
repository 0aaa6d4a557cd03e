/- A calculus of values over the model: what a walk keeps as plain values, and the rules for the forms of code. It speaks of any program. -/
import Derived.Test.YtnkgeljjjeeaaaaGreatDoorXb
import Derived.Shelf.Strconv.Itoa3
import Derived.Lib.Join
import Derived.Shelf.Strings.Repeat
import Derived.Lib.Split
import Derived.Lib.AtoiAll
import Derived.Lib.SmallJoins
import Derived.Shelf.Vars
import Derived.SizedLaws
import Derived.WalkKit
namespace Go.Proofs.YtnkgeljjjeeaaaaGreatDoor.Vc
open Go Go.RowKit Go.Lib
set_option linter.unusedVariables false
set_option linter.unusedSimpArgs false
section
variable {P : Program} {T : Tab} {n : Nat} {w0 : World} {E0 : Env0} {s s' : St} {ops : Array Oper} {Q : Exit → St → Prop} {rest : List Oper}
variable {w w' : World} {E E' : Env} {μ μ' : Nat → Value} {H H' : Heap}
theorem append_run_s {t u elem : TypeId} {info : TypeInfo} {z : Value} (ht : P.underlying t = some (.slice elem)) (hu : P.underlying u = some .string) (hi : P.info? elem = some info) (hz : info.zero = some z) (hsz : info.size = 1) (hzs : z.cells.size = 1) (rt : TypeId) (s : ByteArray) :
  AppRun P w t u rt elem info.bytes 1 (.string s) s.size (strCells s) := by
 intro ty base sLen sCap olds hlo hcap hbase hfit hsm
 have hl := strCells_length s
 by_cases hm0 : s.size = 0
 ·refine ⟨.slice base sLen sCap, w, ?_, .inl ⟨hm0, rfl, rfl⟩⟩
  have hf := run_firstCells_string (P := P) w 1 s
  have he : strCells s = [] := List.length_eq_zero_iff.1 (by rw [hl]; exact hm0)
  rw [he, hm0] at hf
  cases base with
  | none => simp [Builtin.append_, run_underlying ht, run_underlying hu, sizeOf, typeInfo, hi, hsz, Builtin.lenOf, hcap, hm0, hf]
  | some b => simp [Builtin.append_, run_underlying ht, run_underlying hu, sizeOf, typeInfo, hi, hsz, Builtin.lenOf, hcap, hm0, hf, storeCells]
 ·by_cases hroom : sLen + s.size ≤ sCap
  ·rcases hbase with ⟨h0, _⟩ | ⟨g, cur, rfl, hg, hcur, ho⟩
   ·omega
   ·have hst := run_storeCells_at P g sLen ty (strCells s) 0 cur w hg (by omega) (strCells_oneCell s)
    simp only [Nat.add_zero, hl] at hst
    have hf := run_firstCells_string (P := P) w 1 s
    refine ⟨.slice (some ⟨g, 0, none⟩) (sLen + s.size) sCap, _, ?_, .inr (.inl ⟨by omega, g, cur, rfl, hg, hcur, hroom, rfl, rfl⟩)⟩
    simp [Builtin.append_, run_underlying ht, run_underlying hu, sizeOf, typeInfo, hi, hsz, Builtin.lenOf, hroom, hf, Addr.add_lit, hst, hl]
  ·have hcaple : sLen + s.size ≤ grownCap w (sLen + s.size) sCap elem := by
    have : sLen + s.size ≤ maxLen := by unfold maxLen; omega
    simp [grownCap, Question.cut]
   have hfit2 : Builtin.nextslicecap (sLen + s.size) sCap * info.bytes ≤ 281474976710656 := growslice_fits (by omega) hfit
   rcases hbase with ⟨h0, rfl⟩ | ⟨g, cur, rfl, hg, hcur, ho⟩
   ·have hs0 : sLen = 0 := by omega
    subst h0 hs0
    simp only [Nat.zero_add] at hcaple hfit2
    cases base with
    | none =>
     have := run_append_nil_string (P := P) (w := w) t u rt elem info z ht hu hi hz s (by omega) (by omega) (by rw [Nat.zero_add] at hfit; omega)
     refine ⟨_, _, this, .inr (.inr ⟨by omega, grownCap w s.size 0 elem, _, by simpa using hcaple, by simp, rfl, ?_, Builtin.zeroCells z.cells (grownCap w s.size 0 elem - s.size) |>.toList, by simp [strCells]⟩)⟩
     simp only [Array.size_append, Array.size_map, size_zeroCells, hzs, Nat.mul_one]
     show s.size + _ = _
     omega
    | some b0 =>
     have := run_append_grow_string (P := P) w t u rt elem info z ht hu hi hz b0 0 0 [] (by simp) (by simp) s (by omega) (by omega) (by simpa using hfit2)
     simp only [Nat.zero_add] at this
     refine ⟨_, _, this, .inr (.inr ⟨by omega, grownCap w s.size 0 elem, _, by simpa using hcaple, by simp, rfl, ?_, Builtin.zeroCells z.cells (grownCap w s.size 0 elem - s.size) |>.toList, by simp⟩)⟩
     simp only [Array.size_append, List.size_toArray, hl, size_zeroCells, hzs, List.length_nil, Nat.mul_one]
     omega
   ·have := run_append_grow_string (P := P) w t u rt elem info z ht hu hi hz ⟨g, 0, none⟩ sLen sCap olds (by rw [hsz]; exact hlo) ho s (by omega) (by omega) hfit2
    refine ⟨_, _, this, .inr (.inr ⟨by omega, grownCap w (sLen + s.size) sCap elem, _, hcaple, rfl, rfl, ?_, Builtin.zeroCells z.cells (grownCap w (sLen + s.size) sCap elem - (sLen + s.size)) |>.toList, by simp⟩)⟩
    simp only [Array.size_append, List.size_toArray, hl, hlo, size_zeroCells, hzs, Nat.mul_one]
    omega
def evAppS (T : Tab) (n : Nat) (s : St) (o : Oper) : Option (Nat × Prop × AV × Heap) :=
 match o.guard, o.dst, o.op with
 | none, some d, .call { callee := .builtin .append, args, argTypes } => cond (Nat.blt d n) (match args.toList, argTypes.toList with
  | [x, y], [t, t'] => cond (isBytes T t && isStr T t') (match opnd s.sl x, opnd s.sl y with
   | some vx, some (.lf (.v .str ys)) => match vx with
    | .lf .nil => some (d, (ys.size ≤ lim (.int .u8)), .lf (.hd s.H.length 0 none), s.H ++ [some (.arr 0 (.int .u8) (bytesOf ys) .dp)])
    | .lf (.hd id ver none) => match s.H[id]? with
     | some (some (.arr cur (.int .u8) xs m)) => cond (Nat.beq ver cur) (some (d, (xs.length + ys.size ≤ lim (.int .u8)), .lf (.hd id (ver + 1) none), s.H.set id (some (.arr (ver + 1) (.int .u8) (xs ++ bytesOf ys) m)))) none
     | _ => none
    | _ => none
   | _, _ => none) none
  | _, _ => none) none
 | _, _, _ => none
theorem bytesOf_length (z : ByteArray) : (bytesOf z).length = z.size := by
 simp [bytesOf]
theorem isBytes_elem {t : TypeId} (h : isBytes T t = true) (hT : TabOk P T) : ∃ ti, elemTy T t = some (ti, .int .u8) := by
 unfold isBytes at h
 split at h
 ·rename_i e offs szs cm hi
  obtain ⟨h1, j, h2, h3⟩ := hT.slice hi rfl
  exact ⟨⟨.sl (.int .u8), e, offs, szs, cm⟩, by simp [elemTy, hi]⟩
 ·simp at h
theorem VO.appS {o : Oper} {d : Nat} {φ : Prop} {v : AV} {H' : Heap} (hT : TabOk P T) (h : evAppS T n s o = some (d, φ, v, H')) (hφ : φ) (k : VO P n w0 E0 ops Q rest ⟨(d, v) :: s.sl, H'⟩) : VO P n w0 E0 ops Q (o :: rest) s := by
 intro a w hs
 obtain ⟨E, μ, hA⟩ := hs.at
 unfold evAppS at h
 split at h
 ·rename_i d' args argTypes hg hd ho
  cases hb : Nat.blt d' n with
  | false => rw [hb] at h; simp at h
  | true =>
   rw [hb] at h
   simp only [cond_true] at h
   have hdn : d' < n := by simpa [Nat.blt_eq] using hb
   split at h
   ·rename_i x y t t' hargs hts
    cases ht : (isBytes T t && isStr T t') with
    | false => rw [ht] at h; simp at h
    | true =>
     rw [ht] at h
     simp only [cond_true] at h
     simp only [Bool.and_eq_true] at ht
     obtain ⟨ti, he⟩ := isBytes_elem ht.1 hT
     have hu := isStr_under hT ht.2
     have ha1 : args = #[x, y] := by rw [← Array.toArray_toList (xs := args), hargs]
     have ha2 : argTypes = #[t, t'] := by rw [← Array.toArray_toList (xs := argTypes), hts]
     split at h
     ·rename_i vx ys hx hy
      have ey : a.eval y = .string ys := by
       have := hA.opnd hy
       simpa [AR, LR, Rep, at0] using this
      have hsrc : ∀ info z, P.info? ti.elem = some info → info.zero = some z → info.size = (Ty.int IntKind.u8).lv → z.cells.toList = (Ty.int IntKind.u8).zeros → ∃ news, SrcG P w E (.int .u8) (bytesOf ys) t t' o.type ti.elem info.bytes (a.eval y) news := by
       intro info z g1 hz g2 hz'
       refine ⟨strCells ys, by rw [strCells_length, bytesOf_length]; simp [Ty.lv], fun i hi => ?_, ?_⟩
       ·rw [bytesOf_length] at hi
        simp only [Rep, Ty.lv, Nat.mul_one, Nat.add_zero, strCells, bytesOf, List.getElem?_map, List.getElem_map]
        have : i < ys.data.toList.length := by simpa using hi
        rw [List.getElem?_eq_getElem this]
        rfl
       ·rw [ey, bytesOf_length]
        exact append_run_s (elemTy_under hT he).1 hu g1 hz g2 (by rw [← Array.length_toList, hz']; rfl) _ ys
      split at h
      ·simp only [Option.some.injEq, Prod.mk.injEq] at h
       obtain ⟨rfl, rfl, rfl, rfl⟩ := h
       have hxx := hA.opnd hx
       exact app_nil hT hA ho rfl ha1 ha2 hg hd hdn he hxx hsrc (by rw [bytesOf_length]; exact hφ) k
      ·rename_i id ver
       split at h
       ·rename_i cur xs m hH
        cases hc : Nat.beq ver cur with
        | false => rw [hc] at h; simp at h
        | true =>
         rw [hc] at h
         have hv := Nat.eq_of_beq_eq_true hc
         subst hv
         simp only [cond_true, Option.some.injEq, Prod.mk.injEq] at h
         obtain ⟨rfl, rfl, rfl, rfl⟩ := h
         have hxx := hA.opnd hx
         simp only [AR, LR, hH] at hxx
         have h3 := hxx.2.2 trivial
         simp only [HdR] at h3
         exact app_hd hT hA ho rfl ha1 ha2 hg hd hdn he hH h3 (.inr rfl) hsrc (by rw [bytesOf_length]; exact hφ) k
       ·simp at h
      ·simp at h
     ·simp at h
   ·simp at h
 ·simp at h
def isI64 (T : Tab) (t : TypeId) : Bool := match T t with
 | some { ty := .int .i64, .. } => true
 | _ => false
theorem zeroCells_one {z : Array Value} (hz : ∀ v ∈ z, v.oneCell' = true) (hn : 0 < z.size) (q : Nat) : ∀ v ∈ (Builtin.zeroCells z q).toList, v.oneCell' = true := by
 intro v hv
 simp only [Builtin.zeroCells, Array.toList_map, List.mem_map] at hv
 obtain ⟨i, _, rfl⟩ := hv
 have := Nat.mod_lt i hn
 rw [getElem!_pos z _ this]
 exact hz _ (Array.getElem_mem this)
theorem wrap_small {q : Nat} (h : q ≤ 140737488355328) : IntKind.i64.wrap (q : Int) = q := by
 have e : (q : Int) % 2 ^ 64 = q := Int.emod_eq_of_lt (by omega) (by omega)
 simp only [IntKind.wrap, IntKind.bits, IntKind.signed, e]
 split
 ·rename_i h1
  simp at h1
  omega
 ·rfl
theorem append_run_z {t u elem : TypeId} {info : TypeInfo} {z : Value} {e : Ty} (ht : P.underlying t = some (.slice elem)) (hu : P.underlying u = some (.int .i64)) (hi : P.info? elem = some info) (hz : info.zero = some z) (hsz : info.size = e.lv) (hzs : z.cells.toList = e.zeros) (rt : TypeId) (q : Nat) (hfq : q * info.bytes ≤ 140737488355328) (hsq : q ≤ 140737488355328) :
  AppRun P w t u rt elem info.bytes e.lv (.int .i64 q) q (Builtin.zeroCells z.cells q).toList := by
 intro ty base sLen sCap olds hlo hcap hbase hfit hsm
 have hw := wrap_small hsq
 have hpos := lv_pos e
 have hzl : z.cells.size = e.lv := by rw [← Array.length_toList, hzs, zeros_length]
 have hl : (Builtin.zeroCells z.cells q).toList.length = q * e.lv := by rw [Array.length_toList]; simp [size_zeroCells, hzl]
 have h1 : ∀ v ∈ (Builtin.zeroCells z.cells q).toList, v.oneCell' = true := zeroCells_one (fun v hv => zeros_one e v (by rw [← hzs]; exact Array.mem_toList_iff.2 hv)) (by omega) q
 have hneg : ¬ ((q : Int) < 0) := by omega
 have hbig : ¬ ((q : Int) * (info.bytes : Int) > 281474976710656) := by
  have : (q : Int) * (info.bytes : Int) = ((q * info.bytes : Nat) : Int) := by rw [Int.natCast_mul]
  omega
 by_cases hm0 : q = 0
 ·subst hm0
  refine ⟨.slice base sLen sCap, w, ?_, .inl ⟨rfl, rfl, rfl⟩⟩
  have hw' : IntKind.i64.wrap (0 : Int) = 0 := hw
  cases base with
  | none => simp [Builtin.append_, run_underlying ht, run_underlying hu, sizeOf, typeInfo, hi, hcap, asInt, asIntOf, hw']
  | some b => simp [Builtin.append_, run_underlying ht, run_underlying hu, sizeOf, typeInfo, hi, hcap, asInt, asIntOf, hw', storeCells]
 ·have hne : ¬ (q * e.lv = 0) := Nat.pos_iff_ne_zero.1 (Nat.mul_pos (by omega) hpos)
  by_cases hroom : sLen + q ≤ sCap
  ·rcases hbase with ⟨h0, _⟩ | ⟨g, cur, rfl, hg, hcur, ho⟩
   ·omega
   ·have hmul : (sLen + q) * e.lv ≤ sCap * e.lv := Nat.mul_le_mul_right _ hroom
    rw [Nat.add_mul] at hmul
    have hst := run_storeCells_at P g (sLen * e.lv) ty (Builtin.zeroCells z.cells q).toList 0 cur w hg (by omega) h1
    simp only [Nat.add_zero] at hst
    refine ⟨.slice (some ⟨g, 0, none⟩) (sLen + q) sCap, _, ?_, .inr (.inl ⟨by omega, g, cur, rfl, hg, hcur, hroom, rfl, rfl⟩)⟩
    simp [Builtin.append_, run_underlying ht, run_underlying hu, sizeOf, typeInfo, zeroValue, hi, hz, hsz, asInt, asIntOf, hw, hneg, hbig, hne, hroom, Addr.add_lit, hst]
  ·have hcaple : sLen + q ≤ grownCap w (sLen + q) sCap elem := by
    have : sLen + q ≤ maxLen := by unfold maxLen; omega
    simp [grownCap, Question.cut]
   have hfit2 : Builtin.nextslicecap (sLen + q) sCap * info.bytes ≤ 281474976710656 := growslice_fits (by omega) hfit
   have h48' : ¬ (281474976710656 < Builtin.nextslicecap (sLen + q) sCap * info.bytes) := by omega
   have h63' : ¬ (9223372036854775807 < ((sLen : Int) + (q : Int))) := by omega
   have hfo : ∃ f : Sem (Array Value), True := ⟨pure #[], trivial⟩
   have hold : (Builtin.firstCells info.size sLen (.slice base sLen sCap)).run P w.drew = .ok olds.toArray w.drew := by
    rcases hbase with ⟨h0, rfl⟩ | ⟨g, cur, rfl, hg, hcur, ho⟩
    ·have hs0 : sLen = 0 := by omega
     subst hs0
     cases base with
     | none => simp [Builtin.firstCells]
     | some b => simp [Builtin.firstCells, loadCells, loadCellsFrom]
    ·exact run_firstCells_some (P := P) w.drew info.size sLen ⟨g, 0, none⟩ sLen sCap olds (by rw [hsz]; exact hlo) (by simpa using ho)
   refine ⟨_, w.drew.alloc (.cells (olds.toArray ++ Builtin.zeroCells z.cells q ++ Builtin.zeroCells z.cells (grownCap w (sLen + q) sCap elem - (sLen + q))) elem), ?_, .inr (.inr ⟨by omega, grownCap w (sLen + q) sCap elem, _, hcaple, rfl, rfl, ?_, (Builtin.zeroCells z.cells (grownCap w (sLen + q) sCap elem - (sLen + q))).toList, by simp⟩)⟩
   ·simp [Builtin.append_, run_underlying ht, run_underlying hu, sizeOf, typeInfo, zeroValue, hi, hz, hsz, asInt, asIntOf, hw, hneg, hbig, hne, hroom, h63', h48', Question.forced, newRow, grownCap]
    rw [hsz] at hold
    simp [hold]
   ·rw [Array.length_toList] at hl
    simp only [Array.size_append, List.size_toArray, hl, hlo, size_zeroCells, hzl]
    rw [← Nat.add_mul, ← Nat.add_mul]
    congr 1
    omega
def evAppZ (T : Tab) (n : Nat) (s : St) (o : Oper) : Option (Nat × Prop × AV × Heap) :=
 match o.guard, o.dst, o.op with
 | none, some d, .call { callee := .builtin .append, args, argTypes } => cond (Nat.blt d n) (match args.toList, argTypes.toList with
  | [x, y], [t, t'] => cond (isI64 T t') (match elemTy T t, opnd s.sl x, opnd s.sl y with
   | some (_, e), some (.lf .nil), some (.lf (.v (.int .i64) q)) => some (d, (0 ≤ q ∧ q ≤ (lim e : Int)), .lf (.hd s.H.length 0 none), s.H ++ [some (.arr 0 e (List.replicate q.toNat e.dflt) (mdOf e))])
   | _, _, _ => none) none
  | _, _ => none) none
 | _, _, _ => none
theorem VO.appZ {o : Oper} {d : Nat} {φ : Prop} {v : AV} {H' : Heap} (hT : TabOk P T) (h : evAppZ T n s o = some (d, φ, v, H')) (hφ : φ) (k : VO P n w0 E0 ops Q rest ⟨(d, v) :: s.sl, H'⟩) : VO P n w0 E0 ops Q (o :: rest) s := by
 intro a w hs
 obtain ⟨E, μ, hA⟩ := hs.at
 unfold evAppZ at h
 split at h
 ·rename_i d' args argTypes hg hd ho
  cases hb : Nat.blt d' n with
  | false => rw [hb] at h; simp at h
  | true =>
   rw [hb] at h
   simp only [cond_true] at h
   have hdn : d' < n := by simpa [Nat.blt_eq] using hb
   split at h
   ·rename_i x y t t' hargs hts
    cases ht : isI64 T t' with
    | false => rw [ht] at h; simp at h
    | true =>
     rw [ht] at h
     simp only [cond_true] at h
     have hu : P.underlying t' = some (.int .i64) := by
      unfold isI64 at ht
      split at ht
      ·rename_i hi
       exact (hT _ _ hi).under
      ·simp at ht
     have ha1 : args = #[x, y] := by rw [← Array.toArray_toList (xs := args), hargs]
     have ha2 : argTypes = #[t, t'] := by rw [← Array.toArray_toList (xs := argTypes), hts]
     split at h
     ·rename_i ti e q he hx hy
      simp only [Option.some.injEq, Prod.mk.injEq] at h
      obtain ⟨rfl, rfl, rfl, rfl⟩ := h
      have hq0 : (0 : Int) ≤ q := hφ.1
      have hq1 : Int.toNat q ≤ lim e := Int.toNat_le.2 hφ.2
      have ey : a.eval y = .int .i64 q := by
       have := hA.opnd hy
       simpa [AR, LR, Rep, at0] using this
      have hqe : ((q.toNat : Nat) : Int) = q := Int.toNat_of_nonneg hq0
      have hxx := hA.opnd hx
      have hlim0 : lim e ≤ 140737488355328 := Nat.div_le_self _ _
      refine app_nil hT hA ho rfl ha1 ha2 hg hd hdn he hxx (ys := List.replicate q.toNat e.dflt) (fun info z g1 hz g2 hz' => ?_) (by rw [List.length_replicate]; exact hq1) k
      obtain ⟨f1, ej, f2, f3⟩ := elemTy_under hT he
      obtain ⟨info', g1', g2', g3', _, g5, g6⟩ := (hT _ _ f2).info
      rw [g1] at g1'
      simp only [Option.some.injEq] at g1'
      subst g1'
      rw [f3] at g6
      have hfit : q.toNat * info.bytes ≤ 140737488355328 := by
       have a1 : q.toNat ≤ lim e := hq1
       have a2 : lim e * (24 * e.lv) ≤ 140737488355328 := Nat.div_mul_le_self _ _
       have a3 : q.toNat * info.bytes ≤ lim e * (24 * e.lv) := Nat.mul_le_mul a1 (by omega)
       omega
      refine ⟨(Builtin.zeroCells z.cells q.toNat).toList, by rw [Array.length_toList, List.length_replicate, size_zeroCells, show z.cells.size = e.lv by rw [← Array.length_toList, hz', zeros_length]], fun i hi => ?_, ?_⟩
      ·rw [List.length_replicate] at hi
       simp only [List.getElem_replicate]
       refine rep_zeros e _ _ (fun j v hv => ?_)
       have hj : j < e.lv := by rw [← zeros_length e]; exact (List.getElem?_eq_some_iff.1 hv).1
       rw [zeroCells_at hz' hi hj]
       exact hv
      ·rw [ey, List.length_replicate, ← hqe]
       simp only [Int.toNat_natCast]
       exact append_run_z f1 hu g1 hz g2 hz' _ _ hfit (Nat.le_trans hq1 hlim0)
     ·simp at h
   ·simp at h
 ·simp at h
def evCapN (T : Tab) (n : Nat) (s : St) (o : Oper) : Option (Nat × AV) :=
 match o.guard, o.dst, o.op with
 | none, some d, .call { callee := .builtin .cap, args, argTypes } => cond (Nat.blt d n) (match args.toList, argTypes.toList with
  | [x], [t] => match elemTy T t, opnd s.sl x with
   | some _, some (.lf .nil) => some (d, .lf (.v (.int .i64) (0 : Int)))
   | _, _ => none
  | _, _ => none) none
 | _, _, _ => none
theorem VO.capN {o : Oper} {d : Nat} {v : AV} (hT : TabOk P T) (h : evCapN T n s o = some (d, v)) (k : VO P n w0 E0 ops Q rest ⟨(d, v) :: s.sl, s.H⟩) : VO P n w0 E0 ops Q (o :: rest) s := by
 intro a w hs
 obtain ⟨E, μ, hA⟩ := hs.at
 unfold evCapN at h
 split at h
 ·rename_i d' args argTypes hg hd ho
  cases hb : Nat.blt d' n with
  | false => rw [hb] at h; simp at h
  | true =>
   rw [hb] at h
   simp only [cond_true] at h
   have hdn : d' < n := by simpa [Nat.blt_eq] using hb
   split at h
   ·rename_i x t hargs hts
    split at h
    ·rename_i te he hx
     simp only [Option.some.injEq, Prod.mk.injEq] at h
     obtain ⟨rfl, rfl⟩ := h
     have ha1 : args = #[x] := by rw [← Array.toArray_toList (xs := args), hargs]
     have ha2 : argTypes = #[t] := by rw [← Array.toArray_toList (xs := argTypes), hts]
     obtain ⟨ti, e⟩ := te
     obtain ⟨f1, _⟩ := elemTy_under hT he
     obtain ⟨ad, hxx⟩ := hA.opnd hx
     refine wpList_value (y := .int .i64 0) (w' := w) hg ?_ ?_
     ·simp only [execOp, ho, resolve, ha1, ha2, Sem.run_bind, Sem.run_pure, Result.andThen_ok, invoke, builtin]
      simp only [List.map_toArray, List.map_cons, List.map_nil, hxx]
      simp [Builtin.cap_, run_underlying f1, goInt]
     ·rw [hd]
      refine k _ _ (hA.put hdn hA.mr (Ext.refl w E) (fun b hb => ⟨hb, rfl⟩) (KpH.refl μ s.H) ?_).rel
      simp [AR, LR, Rep, at0]
    ·simp at h
   ·simp at h
 ·simp at h
def evCutN (T : Tab) (n : Nat) (s : St) (o : Oper) : Option (Nat × Prop × AV) :=
 match o.guard, o.dst, o.op with
 | none, some d, .slice t x none (some hi) none => cond (Nat.blt d n) (match elemTy T t, opnd s.sl x, opnd s.sl hi with
  | some _, some (.lf .nil), some (.lf (.v (.int _) q)) => some (d, (q = (0 : Int)), .lf .nil)
  | _, _, _ => none) none
 | _, _, _ => none
theorem VO.cutN {o : Oper} {d : Nat} {φ : Prop} {v : AV} (hT : TabOk P T) (h : evCutN T n s o = some (d, φ, v)) (hφ : φ) (k : VO P n w0 E0 ops Q rest ⟨(d, v) :: s.sl, s.H⟩) : VO P n w0 E0 ops Q (o :: rest) s := by
 intro a w hs
 obtain ⟨E, μ, hA⟩ := hs.at
 unfold evCutN at h
 split at h
 ·rename_i d' t x hi hg hd ho
  cases hb : Nat.blt d' n with
  | false => rw [hb] at h; simp at h
  | true =>
   rw [hb] at h
   simp only [cond_true] at h
   have hdn : d' < n := by simpa [Nat.blt_eq] using hb
   split at h
   ·rename_i te kk q he hx hq
    simp only [Option.some.injEq, Prod.mk.injEq] at h
    obtain ⟨rfl, rfl, rfl⟩ := h
    obtain ⟨ti, e⟩ := te
    obtain ⟨f1, ej, f2, f3⟩ := elemTy_under hT he
    obtain ⟨ad, hxx⟩ := hA.opnd hx
    have hqq := hA.opnd hq
    simp only [AR, LR_int] at hqq
    subst hφ
    refine wpList_value (y := .slice ad 0 0) (w' := w) hg ?_ ?_
    ·have := slice_run (P := P) (T := T) hT f1 f2 (a := ad) (len := 0) (cap := 0) (lo := none) (hi := some (.int kk 0)) (l := 0) (h := 0) (Nat.le_refl 0) (.inl ⟨rfl, rfl⟩) (.inr ⟨kk, 0, rfl, Int.le_refl 0, rfl⟩) (Nat.le_refl 0) (Nat.le_refl 0) w
     simp only [if_true, Nat.sub_self] at this
     simp only [execOp, ho, hxx, Option.map_none, Option.map_some, hqq, Sem.run_bind, this, Result.andThen_ok, Sem.run_pure]
    ·rw [hd]
     exact k _ _ (hA.put (v := .lf .nil) (y := .slice ad 0 0) hdn hA.mr (Ext.refl w E) (fun b hb => ⟨hb, rfl⟩) (KpH.refl μ s.H) (show ∃ a', Value.slice ad 0 0 = .slice a' 0 0 from ⟨ad, rfl⟩)).rel
   ·simp at h
 ·simp at h
def evMark (T : Tab) (n : Nat) (s : St) (o : Oper) : Option (Nat × Prop × AV × Heap) :=
 match o.guard, o.dst, o.op with
 | none, some d, .convert a b x => cond (Nat.blt d n && Nat.beq a b && isBytes T a) (match opnd s.sl x with
  | some (.lf (.hd id ver none)) => match s.H[id]? with
   | some (some (.arr cur (.int .u8) xs m)) => cond (Nat.beq ver cur) (some (d, (0 < xs.length), .lf (.v (.sl (.int .u8)) xs), s.H.set id none)) none
   | _ => none
  | _ => none) none
 | _, _, _ => none
theorem freeze_at {b k : Nat} {arr : Array Value} {ty : TypeId} (h : w.heap[b]? = some (.cells arr ty (0, 0))) : (∀ c, c ≠ b → (w.freeze ⟨b, k, none⟩ 1).heap[c]? = w.heap[c]?) ∧ (∃ fr, (w.freeze ⟨b, k, none⟩ 1).heap[b]? = some (.cells arr ty fr)) ∧ (w.freeze ⟨b, k, none⟩ 1).heap.size = w.heap.size := by
 simp only [World.freeze]
 refine ⟨fun c hc => ?_, ?_, ?_⟩
 ·simp [Array.getElem?_modify, Ne.symm hc]
 ·simp [Array.getElem?_modify, h]
 ·simp
theorem VO.mark {o : Oper} {d : Nat} {φ : Prop} {v : AV} {H' : Heap} (hT : TabOk P T) (h : evMark T n s o = some (d, φ, v, H')) (hφ : φ) (k : VO P n w0 E0 ops Q rest ⟨(d, v) :: s.sl, H'⟩) : VO P n w0 E0 ops Q (o :: rest) s := by
 intro a w hs
 obtain ⟨E, μ, hA⟩ := hs.at
 unfold evMark at h
 split at h
 ·rename_i d' ta tb x hg hd ho
  cases hb : (Nat.blt d' n && Nat.beq ta tb && isBytes T ta) with
  | false => rw [hb] at h; simp at h
  | true =>
   rw [hb] at h
   simp only [cond_true] at h
   simp only [Bool.and_eq_true] at hb
   obtain ⟨⟨hb1, hb2⟩, hb3⟩ := hb
   have hdn : d' < n := by simpa [Nat.blt_eq] using hb1
   have hab := Nat.eq_of_beq_eq_true hb2
   subst hab
   obtain ⟨e, u1, u2⟩ := isBytes_under hT hb3
   split at h
   ·rename_i id ver hx
    split at h
    ·rename_i cur xs m hH
     cases hc : Nat.beq ver cur with
     | false => rw [hc] at h; simp at h
     | true =>
      rw [hc] at h
      have hv := Nat.eq_of_beq_eq_true hc
      subst hv
      simp only [cond_true, Option.some.injEq, Prod.mk.injEq] at h
      obtain ⟨rfl, rfl, rfl, rfl⟩ := h
      have hxx := hA.opnd hx
      simp only [AR, LR, hH] at hxx
      have h3 := hxx.2.2 trivial
      simp only [HdR] at h3
      obtain ⟨hm, hrow⟩ := hA.mr.arr hH
      rcases hrow with ⟨rfl, ad0, h0⟩ | ⟨g, c', arr, ty, g1, g2, g3, g4, g5, g6⟩
      ·simp at hφ
      ·obtain ⟨f1, ⟨fr, f2⟩, f3⟩ := freeze_at (k := arr.size) g3
       have hne : ∀ c, E.S c → c ≠ g := fun c hc e => by subst e; have := hA.mr.apart c hc; rw [g5] at this; simp at this
       have hidlt : id < s.H.length := (List.getElem?_eq_some_iff.1 hH).1
       refine wpList_value (y := .slice (some ⟨g, 0, none⟩) xs.length c') (w' := w.freeze ⟨g, arr.size, none⟩ 1) hg ?_ ?_
       ·simp only [execOp, ho, h3, g1]
        simp [Go.convert, run_underlying u1, run_underlying u2, markStringish, World.shape?, g3]
       ·rw [hd]
        have hS : ∀ c, E.S c → (⟨fun c => E.S c ∨ c = g, fun c => if c = g then none else E.κ c⟩ : Env).S c ∧ (w.freeze ⟨g, arr.size, none⟩ 1).heap[c]? = w.heap[c]? := fun c hc => ⟨.inl hc, f1 c (hne c hc)⟩
        have hK : KpH μ μ s.H (s.H.set id none) := KpH.set hH trivial
        have hM : MR (w.freeze ⟨g, arr.size, none⟩ 1) ⟨fun c => E.S c ∨ c = g, fun c => if c = g then none else E.κ c⟩ μ (s.H.set id none) 0 := by
         refine MR.step hA.mr (fun c hc => ?_) (fun c hc => ?_) (fun c hc => ?_) (fun c r q hq => ?_) hS hK (fun i blk hi => ?_)
         ·rcases hc with hc | hc
          ·simp only [if_neg (hne c hc)]; exact hA.mr.apart c hc
          ·simp [hc]
         ·rw [f3]
          rcases hc with hc | hc
          ·exact hA.mr.ltS c hc
          ·rw [hc]; exact hA.mr.ltκ g (by simp [g5])
         ·rw [f3]
          simp only at hc
          split at hc
          ·simp at hc
          ·exact hA.mr.ltκ c hc
         ·simp only at hq
          split at hq
          ·simp at hq
          ·simpa using hA.mr.roots c r q hq
         ·have hii : i ≠ id := by
           intro e
           subst e
           simp [hidlt] at hi
          rw [List.getElem?_set_ne (Ne.symm hii)] at hi
          refine .inl ⟨hi, rfl, fun c q hq => ?_⟩
          have hcg : c ≠ g := by
           intro e
           subst e
           rw [g5] at hq
           simp only [Option.some.injEq, Prod.mk.injEq, Root.id.injEq] at hq
           exact hii hq.1.symm
          exact ⟨by simp only [if_neg hcg]; exact hq, f1 c hcg⟩
        refine k _ _ (hA.put hdn hM ⟨rfl, rfl, rfl, by rw [f3]; exact Nat.le_refl _, fun c hc hn => f1 c (fun e => by subst e; rw [g5] at hn; simp at hn), fun c hc => .inl hc, fun c hc => ?_, fun c hc => ?_⟩ hS hK ?_).rel
        ·rcases hc with hc | hc
         ·exact .inl hc
         ·exact .inr (.inl (by rw [hc, g5]; simp))
        ·simp only at hc
         split at hc
         ·simp at hc
         ·exact .inl hc
        ·refine ⟨_, rfl, .inl ⟨rfl, .inr ⟨g, 0, c', rfl, g2, .inr rfl, fun i hi => ?_⟩⟩⟩
         have := g6 i hi
         simp only [Rep, Ty.lv, Nat.mul_one, Nat.add_zero, cellAt, World.cell?, g3, f2, Option.isSome_none, Bool.false_eq_true, if_false, Nat.zero_add] at this ⊢
         exact this
    ·simp at h
   ·simp at h
 ·simp at h
theorem Lf.unfrz {id : Nat} {H1 : Heap} (h1 : H1[id]? = some none) {a : Lf} {y : Value} (h : LR w E μ H1 (a.frz H id) y) : LR w E μ H1 a y := by
 cases a with
 | hd i ver rng =>
  simp only [Lf.frz] at h
  cases hb : Nat.beq i id with
  | false => rw [hb] at h; exact h
  | true =>
   have := Nat.eq_of_beq_eq_true hb
   subst this
   exact ⟨LR_one h, by simp [h1]⟩
 | v t x => exact h
 | nil => exact h
 | ptr i ver a b => exact h
 | fp t x j => exact h
 | any => exact h
theorem All2.unmap {α β γ : Type} {R : α → β → Prop} {R' : γ → β → Prop} {f : γ → α} (h : ∀ x y, R (f x) y → R' x y) : ∀ {xs : List γ} {ys : List β}, All2 R (xs.map f) ys → All2 R' xs ys
 | [], [], .nil => .nil
 | x :: xs, y :: ys, .cons h1 h2 => .cons (h _ _ h1) (All2.unmap h h2)
theorem SV.unfrz {id : Nat} {H1 : Heap} (h1 : H1[id]? = some none) {a : SV} {y : Value} (h : SR w E μ H1 (a.frz H id) y) : SR w E μ H1 a y := by
 cases a with
 | lf a => exact Lf.unfrz (a := a) h1 h
 | agg l => obtain ⟨arr, h2, h3⟩ := h; exact ⟨arr, h2, All2.unmap (f := Lf.frz H id) (fun _ _ h => Lf.unfrz h1 h) h3⟩
theorem AV.unfrz {id : Nat} {H1 : Heap} (h1 : H1[id]? = some none) {a : AV} {y : Value} (h : AR w E μ H1 (a.frz H id) y) : AR w E μ H1 a y := by
 cases a with
 | lf a => exact Lf.unfrz (a := a) h1 h
 | agg l => obtain ⟨arr, h2, h3⟩ := h; exact ⟨arr, h2, All2.unmap (f := Lf.frz H id) (fun _ _ h => Lf.unfrz h1 h) h3⟩
 | tup l => obtain ⟨arr, h2, h3⟩ := h; exact ⟨arr, h2, All2.unmap (f := SV.frz H id) (fun _ _ h => SV.unfrz h1 h) h3⟩
 | clo f l => obtain ⟨arr, h2, h3⟩ := h; exact ⟨arr, h2, All2.unmap (f := SV.frz H id) (fun _ _ h => SV.unfrz h1 h) h3⟩
 | unk => exact h
def frzV (view : List (Nat × AV)) (H : Heap) (id : Nat) : List (Nat × AV) := view.map fun x => (x.1, x.2.frz H id)
def frzHp (H : Heap) (id : Nat) : Heap := (H.map fun b => b.map (Blk.frz H id)).set id none
theorem Stp.frz (id : Nat) {view : List (Nat × AV)} {o : Oper} {e : Option (Nat × AV)} (hid : isArr H id = true) (h : Stp P n w0 E0 ops Q o (frzV view H id) (frzHp H id) e H') (hn : H'[id]? = some none) : Stp P n w0 E0 ops Q o view H e H' := by
 intro sl hle a w hs
 have hs' : SRel n w0 E0 ⟨frzV sl H id, frzHp H id⟩ a w := Gh.frz id (s := ⟨sl, H⟩) hid a w hs
 have hle' : Le (frzV view H id) (frzV sl H id) := by
  intro k v hv
  simp only [frzV, look_map] at hv ⊢
  obtain ⟨u, h1, rfl⟩ := Option.map_eq_some_iff.1 hv
  rw [hle k u h1, Option.map_some]
 have next : ∀ a' w', (∃ s', SRel n w0 E0 s' a' w' ∧ s' = ⟨putE e (frzV sl H id), H'⟩) → ∃ s', SRel n w0 E0 s' a' w' ∧ s' = ⟨putE e sl, H'⟩ := by
  rintro a' w' ⟨s', h1, h2⟩
  subst h2
  refine ⟨⟨putE e sl, H'⟩, ⟨h1.size, h1.defers, h1.apart, ?_⟩, rfl⟩
  obtain ⟨E, μ, m1, m2, m3⟩ := h1.mem
  refine ⟨E, μ, m1, m2, fun k v hv => ?_⟩
  have old : ∀ k v, look sl k = some v → look (frzV sl H id) k = some (v.frz H id) := fun k v hv => by simp only [frzV, look_map, hv, Option.map_some]
  cases e with
  | none =>
   obtain ⟨y, h3, h4⟩ := m3 k _ (old k v hv)
   exact ⟨y, h3, AV.unfrz hn h4⟩
  | some x =>
   obtain ⟨j, u⟩ := x
   simp only [putE, look] at hv
   cases hb : Nat.beq j k with
   | true =>
    rw [hb] at hv
    exact m3 k v (by simp only [putE, look, hb]; exact hv)
   | false =>
    rw [hb] at hv
    obtain ⟨y, h3, h4⟩ := m3 k (v.frz H id) (by simp only [putE, look, hb]; exact old k v hv)
    exact ⟨y, h3, AV.unfrz hn h4⟩
 have hvo := h _ hle' a w hs'
 unfold wpList at hvo ⊢
 by_cases hwt : Region.wanted o (yielded ops a.tmps) = true
 ·rw [if_pos hwt] at hvo ⊢
  rcases hvo with hvo | ⟨hvo1, a1, w1, s1, h1, h2⟩
  ·refine .inl (Oper.wp_mono (fun a' w' hh => next a' w' hh) (wp_swap ?_ hvo))
   rintro e a' w' hne ⟨s1, h1, h2⟩
   refine ⟨s1, h1, ?_⟩
   cases e with
   | normal => exact absurd rfl hne
   | exit id => exact h2
   | goto l => exact h2
   | ret => exact h2
   | panic c => exact h2
   | outgrown => exact h2
  ·exact .inr ⟨hvo1, a1, w1, s1, h1, h2⟩
 ·rw [if_neg hwt] at hvo ⊢
  exact next _ _ hvo
end
end Go.Proofs.YtnkgeljjjeeaaaaGreatDoor.Vc
namespace Go.Proofs.YtnkgeljjjeeaaaaGreatDoor.Vc
open Go Go.RowKit
set_option linter.unusedVariables false
set_option linter.unusedSimpArgs false
def evLitAt (T : Tab) (n id : Nat) (s : St) (o : Oper) : Option (Nat × AV × Heap) :=
 match o.guard, o.dst, o.op with
 | none, some d, .buildSlice t len parts => cond (Nat.blt d n) (match elemTy T t with
  | some (_, e) => match litRows s.sl 0 parts.toList, s.H[id]? with
   | some rows, some (some (.arr v _ [] _)) => match rowsOf (mdOf e).nest e rows with
    | some (x :: xs) => cond (Nat.beq (x :: xs).length len && Nat.ble (len * e.lv) 16777216) (some (d, .lf (.hd id (v + 1) none), s.H.set id (some (.arr (v + 1) e (x :: xs) (mdOf e))))) none
    | _ => none
   | _, _ => none
  | none => none) none
 | _, _, _ => none
def hpM : List (Nat × Heap) → Nat → Heap
 | [], _ => []
 | (k, H) :: l, q => cond (Nat.beq k q) H (hpM l q)
def ixN (i : Nat) : List Nat → Option Nat
 | [] => none
 | j :: l => cond (Nat.beq j i) (some 0) ((ixN i l).map (· + 1))
def nqM (ns : List Nat) (i q : Nat) : Nat := match ixN i ns with
 | some j => q ||| 2 ^ j
 | none => q
def okqM (ops : Array Oper) (ns : List Nat) (i q : Nat) : Bool :=
 ((List.range ns.length).all fun j => match ns[j]? with
  | some x => (!memN x (aft ops i) || q.testBit j) && (!memN i (aft ops x) || !q.testBit j) && (!Nat.beq i x || !q.testBit j) &&
   ((List.range ns.length).all fun k => match ns[k]? with
    | some y => !memN x (aft ops y) || !q.testBit k || q.testBit j
    | none => true)
  | none => true)
def coversM (ops : Array Oper) (ns : List Nat) (L : List (Nat × Nat)) : Bool :=
 (List.range ops.size).all fun i => (List.range (2 ^ ns.length)).all fun q => !okqM ops ns i q || L.any fun x => Nat.beq x.1 i && Nat.beq x.2 q
def nodupN : List Nat → Bool
 | [] => true
 | x :: l => !memN x l && nodupN l
def drawOkM (ops : Array Oper) (es : List (Option (Nat × AV))) (ns : List Nat) (L : List (Nat × Nat)) : Bool :=
 nodupN ns && nodupO ((List.range ops.size).map (dstOf ops)) && coversM ops ns L && (ns.all fun x => Nat.blt x ops.size) &&
 ((List.range ops.size).all fun i => (aft ops i).all fun j => Nat.blt j i) &&
 ((List.range ops.size).all fun i => match es[i]? with | some (some (d, _)) => eqO (dstOf ops i) d | _ => true)
def StpM (P : Program) (n : Nat) (w0 : World) (E0 : Env0) (ops : Array Oper) (Q : Exit → St → Prop) (sl : List (Nat × AV)) (es : List (Option (Nat × AV))) (ns : List Nat) (Hs : List (Nat × Heap)) (x : Nat × Nat) : Prop :=
 ∃ o, ops[x.1]? = some o ∧ Stp P n w0 E0 ops Q o (vw ops es sl x.1) (hpM Hs x.2) ((es[x.1]?).getD none) (hpM Hs (nqM ns x.1 x.2))
section
variable {P : Program} {T : Tab} {n : Nat} {w0 : World} {E0 : Env0} {s s' s'' : St} {ops : Array Oper} {Q : Exit → St → Prop} {rest : List Oper} {sl sl' view : List (Nat × AV)} {H H' : Heap}
variable {w w' : World} {E E' : Env} {μ μ' : Nat → Value}
theorem Gh.rsv (e : Ty) (m : Md) (hm : m ≠ .fz) : Gh n w0 E0 s ⟨s.sl, s.H ++ [some (.arr 0 e [] m)]⟩ := by
 intro a w hs
 obtain ⟨E, μ, hA⟩ := hs.at
 have hM := hA.mr
 have hK := KpH.push (μ := μ) s.H (some (.arr 0 e [] m)) (.slice none 0 0)
 have hS : ∀ b, E.S b → E.S b ∧ w.heap[b]? = w.heap[b]? := fun b hb => ⟨hb, rfl⟩
 refine ⟨hA.size, hA.defers, hA.apart, E, putμ μ s.H.length (.slice none 0 0), ?_, hA.ext, fun k u hu => ?_⟩
 ·refine MR.step hM hM.apart hM.ltS hM.ltκ (fun b r q h => ?_) hS hK (fun id blk h => ?_)
  ·rcases hM.roots b r q h with ⟨m, h1, h2⟩ | h1
   ·exact .inl ⟨m, h1, by simp; omega⟩
   ·exact .inr h1
  ·by_cases hid : id < s.H.length
   ·rw [List.getElem?_append_left hid] at h
    exact .inl ⟨h, by simp [putμ]; omega, fun b q hq => ⟨hq, rfl⟩⟩
   ·have hlt := (List.getElem?_eq_some_iff.1 h).1
    have : id = s.H.length := by simp at hlt; omega
    subst this
    simp only [List.getElem?_concat_length, Option.some.injEq] at h
    subst h
    exact .inr ⟨hm, _, rfl, .inr ⟨hm, .inl ⟨rfl, none, by simp [putμ]⟩⟩⟩
 ·obtain ⟨z, h2, h3⟩ := hA.slots k u hu
  exact ⟨z, h2, AR.keep hS hK _ _ h3⟩
theorem MR.allocAt {id v0 c : Nat} {e0 e : Ty} {m0 : Md} {xs : List e.den} (hM : MR w E μ H 0) (hH : H[id]? = some (some (.arr v0 e0 [] m0))) (cells : Array Value) (ty : TypeId) (hc : xs.length ≤ c) (hsz : cells.size = c * e.lv)
  (hrep : ∀ i (h : i < xs.length), Rep w E (.res 0) e xs[i] .fz (fun _ => .top) (fun j => cells[i * e.lv + j]?)) :
  MR (w.alloc (.cells cells ty)) (putκ E w.heap.size (.id id, .top)) (putμ μ id (.slice (some ⟨w.heap.size, 0, none⟩) xs.length c)) (H.set id (some (.arr (v0 + 1) e xs (mdOf e)))) 0 ∧
  Ext w E (w.alloc (.cells cells ty)) (putκ E w.heap.size (.id id, .top)) ∧
  (∀ b, E.S b → (putκ E w.heap.size (.id id, .top)).S b ∧ (w.alloc (.cells cells ty)).heap[b]? = w.heap[b]?) ∧
  KpH μ (putμ μ id (.slice (some ⟨w.heap.size, 0, none⟩) xs.length c)) H (H.set id (some (.arr (v0 + 1) e xs (mdOf e)))) := by
 have hS : ∀ b, E.S b → (putκ E w.heap.size (.id id, .top)).S b ∧ (w.alloc (.cells cells ty)).heap[b]? = w.heap[b]? := fun b hb => ⟨hb, alloc_old w _ (hM.ltS b hb)⟩
 have hK : KpH μ (putμ μ id (.slice (some ⟨w.heap.size, 0, none⟩) xs.length c)) H (H.set id (some (.arr (v0 + 1) e xs (mdOf e)))) := KpH.setAt hH (.inl (Nat.lt_succ_self v0))
 have hidlt : id < H.length := (List.getElem?_eq_some_iff.1 hH).1
 have hnew : (w.alloc (.cells cells ty)).heap[w.heap.size]? = some (.cells cells ty (0, 0)) := by simp [alloc_heap]
 have hκ : ∀ b, E.κ b ≠ none → b ≠ w.heap.size := fun b h e => by have := hM.ltκ b h; omega
 have hNB : NB (w.alloc (.cells cells ty)) (putκ E w.heap.size (.id id, .top)) (putμ μ id (.slice (some ⟨w.heap.size, 0, none⟩) xs.length c)) (H.set id (some (.arr (v0 + 1) e xs (mdOf e)))) id (.arr (v0 + 1) e xs (mdOf e)) := by
  refine ⟨mdOf_ne e, _, rfl, .inr ⟨mdOf_ne e, .inr ⟨w.heap.size, c, _, ty, by simp [putμ], hc, hnew, hsz, by simp [putκ], fun i hi => ?_⟩⟩⟩
  have hce : (fun j => cellAt (w.alloc (.cells cells ty)) w.heap.size (i * e.lv + j)) = fun j => cells[i * e.lv + j]? := by
   funext j
   simp only [cellAt, World.cell?, hnew, Option.isSome_none, Bool.false_eq_true, if_false]
  rw [hce]
  exact Rep.nested (mdOf_nest e) (Rep.fz hS e _ (r' := .res 0) (p' := fun _ => .top) (fun _ _ _ h => h) (hrep i hi))
 refine ⟨MR.step hM (fun b h => ?_) (fun b h => ?_) (fun b h => ?_) (fun b r q h => ?_) hS hK (fun i blk hi => ?_), ⟨rfl, rfl, rfl, by simp [alloc_heap], fun b hb _ => alloc_old w _ hb, fun b h => h, fun b h => .inl h, fun b h => ?_⟩, hS, hK⟩
 ·have := hM.ltS b h
  simp only [putκ, if_neg (show b ≠ w.heap.size by omega)]
  exact hM.apart b h
 ·have := hM.ltS b h
  simp [alloc_heap]; omega
 ·simp only [putκ] at h
  split at h
  ·simp [alloc_heap]; omega
  ·have := hM.ltκ b h
   simp [alloc_heap]; omega
 ·simp only [putκ] at h
  split at h
  ·simp only [Option.some.injEq, Prod.mk.injEq] at h
   exact .inl ⟨id, h.1.symm, by simpa using hidlt⟩
  ·simpa using hM.roots b r q h
 ·by_cases hii : i = id
  ·subst hii
   simp only [List.getElem?_set_self hidlt, Option.some.injEq] at hi
   subst hi
   exact .inr hNB
  ·rw [List.getElem?_set_ne (Ne.symm hii)] at hi
   refine .inl ⟨hi, by simp [putμ, hii], fun b q hq => ?_⟩
   have hb := hM.ltκ b (by simp [hq])
   refine ⟨?_, alloc_old w _ hb⟩
   simp only [putκ, if_neg (show b ≠ w.heap.size by omega)]
   exact hq
 ·simp only [putκ] at h
  split at h
  ·rename_i e'; exact .inr (by omega)
  ·exact .inl h
theorem VO.litAt (id : Nat) {o : Oper} {d : Nat} {v : AV} {H' : Heap} (hT : TabOk P T) (h : evLitAt T n id s o = some (d, v, H')) (k : VO P n w0 E0 ops Q rest ⟨(d, v) :: s.sl, H'⟩) : VO P n w0 E0 ops Q (o :: rest) s := by
 intro a w hs
 obtain ⟨E, μ, hA⟩ := hs.at
 unfold evLitAt at h
 split at h
 ·rename_i d' t len parts hg hd ho
  cases hb : Nat.blt d' n with
  | false => rw [hb] at h; simp at h
  | true =>
   rw [hb] at h
   simp only [cond_true] at h
   have hdn : d' < n := by simpa [Nat.blt_eq] using hb
   split at h
   ·rename_i ti e he
    split at h
    ·rename_i rows v0 e0 m0 hrows hH
     split at h
     ·rename_i x0 xs0 hxs
      generalize hxe : x0 :: xs0 = xs at h hxs
      cases hc : (Nat.beq xs.length len && Nat.ble (len * e.lv) 16777216) with
      | false => rw [hc] at h; simp at h
      | true =>
       rw [hc] at h
       simp only [Bool.and_eq_true] at hc
       obtain ⟨hlen, hsm⟩ := hc
       have hlen : xs.length = len := Nat.eq_of_beq_eq_true hlen
       have hsm : len * e.lv ≤ 16777216 := by simpa using hsm
       simp only [cond_true, Option.some.injEq, Prod.mk.injEq] at h
       obtain ⟨rfl, rfl, rfl⟩ := h
       have h0 : len ≠ 0 := by rw [← hlen, ← hxe]; simp
       obtain ⟨f1, ej, f2, f3⟩ := elemTy_under hT he
       obtain ⟨info, g1, g2, g3, _⟩ := (hT _ _ f2).info
       rw [f3] at g2 g3
       obtain ⟨z, hz, hz'⟩ := Option.map_eq_some_iff.1 g3
       obtain ⟨l1, l2⟩ := litRows_run hA hrows
       obtain ⟨r1, r2, r3⟩ := rowsOf_rep hxs l2
       have hpos := lv_pos e
       generalize hvs : (parts.toList.map fun x => a.eval x.2) = vs at l1 l2 r1 r2 r3
       have hrun : (execOp a.eval o).run P w = .ok (.value (.slice (some ⟨w.heap.size, 0, none⟩) len len)) (w.alloc (.cells (vs.flatMap fun v => v.cells.toList).toArray ti.elem)) := by
        have hparts : (parts.map fun (i, x) => (i, a.eval x)).toList = (vs.zipIdx 0).map fun x => (x.2, x.1) := by
         rw [Array.toList_map, ← l1]
        have := run_buildSlice w t ti.elem len (parts.map fun (i, x) => (i, a.eval x)) (vs.flatMap fun v => v.cells.toList).toArray info z f1 g1 hz (by rw [g2]; omega) (by rw [g2]; have := Nat.mul_ne_zero h0 (Nat.ne_of_gt hpos); exact this) (by
         rw [hparts, g2]
         refine Great.fill_whole hpos vs _ r2 ?_
         rw [← r1, hlen]
         simp)
        simp only [execOp, ho, Sem.run_bind, this, Result.andThen_ok, Sem.run_pure]
       have hcells : (vs.flatMap fun v => v.cells.toList).toArray.size = len * e.lv := by
        rw [List.size_toArray]
        have : ∀ vs : List Value, (∀ v ∈ vs, v.cells.size = e.lv) → (vs.flatMap fun v => v.cells.toList).length = vs.length * e.lv := by
         intro vs hv
         induction vs with
         | nil => simp
         | cons v vs ih => rw [List.flatMap_cons, List.length_append, ih (fun u hu => hv u (List.mem_cons_of_mem _ hu)), Array.length_toList, hv v List.mem_cons_self, List.length_cons, Nat.add_mul]; omega
        rw [this vs r2, ← r1, hlen]
       refine wpList_value hg hrun ?_
       rw [hd]
       have hrows : ∀ i (h : i < xs.length), Rep w E (.res 0) e xs[i] .fz (fun _ => .top) (fun j => (vs.flatMap fun v => v.cells.toList).toArray[i * e.lv + j]?) := by
        intro i hi
        obtain ⟨v, hv, hr⟩ := r3 i hi
        have hgg : ∀ j y, j < e.lv → v.cells.toList[j]? = some y → (vs.flatMap fun v => v.cells.toList).toArray[i * e.lv + j]? = some y := by
         intro j y hj hy
         rw [List.getElem?_toArray, Great.flat_get hpos vs r2, Nat.mul_comm, Nat.mul_add_div hpos, Nat.div_eq_of_lt hj, Nat.add_zero, hv, Nat.mul_add_mod, Nat.mod_eq_of_lt hj]
         simpa using hy
        have hr := hr (.res 0) (fun _ => .top)
        have hr' : Rep w E (.res 0) e xs[i] .fz (fun _ => .top) (fun j => v.cells.toList[j]?) := by
         cases hf : e.flat with
         | true => exact Rep.flat hf hr
         | false =>
          have hn : (mdOf e).nest = .fz := by simp [mdOf, hf, Md.nest]
          rw [hn] at hr
          exact hr
        exact Rep.fz (fun b hb => ⟨hb, rfl⟩) e _ hgg hr'
       obtain ⟨m1, m2, m3, m4⟩ := MR.allocAt hA.mr hH (vs.flatMap fun v => v.cells.toList).toArray ti.elem (c := len) (by omega) hcells hrows
       have hidlt : id < s.H.length := (List.getElem?_eq_some_iff.1 hH).1
       rw [hlen] at m1 m4
       refine k _ _ (hA.put hdn m1 m2 m3 m4 ?_).rel
       simp [AR, LR, putμ, HdR, hidlt, Value.oneCell']
     ·simp at h
    ·simp at h
   ·simp at h
 ·simp at h
def evAllocAt (T : Tab) (n id : Nat) (s : St) (o : Oper) : Option (Nat × AV × Heap) :=
 match o.guard, o.dst, o.op with
 | none, some d, .alloc t => cond (Nat.blt d n) (match T t, s.H[id]? with
  | some ti, some (some (.arr v _ [] _)) => some (d, .lf (.ptr id (v + 1) 0 0), s.H.set id (some (.arr (v + 1) ti.ty [ti.ty.dflt] (mdOf ti.ty))))
  | _, _ => none) none
 | _, _, _ => none
theorem VO.allocAt (id : Nat) {o : Oper} {d : Nat} {v : AV} {H' : Heap} (hT : TabOk P T) (h : evAllocAt T n id s o = some (d, v, H')) (k : VO P n w0 E0 ops Q rest ⟨(d, v) :: s.sl, H'⟩) : VO P n w0 E0 ops Q (o :: rest) s := by
 intro a w hs
 obtain ⟨E, μ, hA⟩ := hs.at
 unfold evAllocAt at h
 split at h
 ·rename_i d' t hg hd ho
  cases hb : Nat.blt d' n with
  | false => rw [hb] at h; simp at h
  | true =>
   rw [hb] at h
   simp only [cond_true] at h
   have hdn : d' < n := by simpa [Nat.blt_eq] using hb
   split at h
   ·rename_i ti v0 e0 m0 hi hH
    simp only [Option.some.injEq, Prod.mk.injEq] at h
    obtain ⟨rfl, rfl, rfl⟩ := h
    obtain ⟨info, h1, h2, h3, _⟩ := (hT t ti hi).info
    obtain ⟨z, hz, hz'⟩ := Option.map_eq_some_iff.1 h3
    have hidlt : id < s.H.length := (List.getElem?_eq_some_iff.1 hH).1
    obtain ⟨m1, m2, m3, m4⟩ := MR.allocAt (e := ti.ty) (xs := [ti.ty.dflt]) (c := 1) hA.mr hH z.cells t (by simp) (by rw [← Array.length_toList, hz', zeros_length]; simp) (fun i hi => by
     have hi0 : i = 0 := by simpa using hi
     subst hi0
     refine rep_zeros ti.ty _ _ (fun j v hv => ?_)
     rw [Nat.zero_mul, Nat.zero_add, ← Array.getElem?_toList, hz']
     exact hv)
    refine wpList_value (y := .pointer (some ⟨w.heap.size, 0, none⟩)) (w' := w.alloc (.cells z.cells t)) hg ?_ ?_
    ·simp only [execOp, ho, Instr.alloc, Sem.run_bind, zeroValue, typeInfo, run_program, Result.andThen_ok, h1, Sem.run_pure, hz, newVar, newRow, run_newObj]
     rfl
    ·rw [hd]
     refine k _ _ (hA.put hdn m1 m2 m3 m4 ?_).rel
     simp [AR, LR, putμ, hidlt, Value.oneCell']
   ·simp at h
 ·simp at h
theorem Stp.allocAt (id : Nat) {o : Oper} {d : Nat} {v : AV} (hT : TabOk P T) (h : evAllocAt T n id ⟨view, H⟩ o = some (d, v, H')) : Stp P n w0 E0 ops Q o view H (some (d, v)) H' :=
 fun sl hle => VO.allocAt id hT (s := ⟨sl, H⟩) (d := d) (v := v) (H' := H') h (VO.nil rfl)
theorem Stp.litAt (id : Nat) {o : Oper} {d : Nat} {v : AV} (hT : TabOk P T) (h : evLitAt T n id ⟨view, H⟩ o = some (d, v, H')) : Stp P n w0 E0 ops Q o view H (some (d, v)) H' := by
 intro sl hle
 refine VO.litAt id hT (s := ⟨sl, H⟩) (d := d) (v := v) (H' := H') ?_ (VO.nil rfl)
 unfold evLitAt at h ⊢
 split at h
 ·rename_i d' t len parts hg hd ho
  cases hb : Nat.blt d' n with
  | false => rw [hb] at h; simp at h
  | true =>
   rw [hb] at h
   simp only [cond_true] at h ⊢
   split at h
   ·rename_i ti e he
    split at h
    ·rename_i rows v0 e0 m0 hrows hH
     have hr := hle.litRows hrows
     have hH : H[id]? = _ := hH
     simp only [hr, hH]
     exact h
    ·simp at h
   ·simp at h
 ·simp at h
theorem ixN_some : ∀ {l : List Nat} {i j : Nat}, ixN i l = some j → l[j]? = some i
 | [], i, j, h => by simp [ixN] at h
 | x :: l, i, j, h => by
  simp only [ixN] at h
  cases hb : Nat.beq x i with
  | true =>
   rw [hb] at h
   simp only [cond_true, Option.some.injEq] at h
   subst h
   rw [Nat.eq_of_beq_eq_true hb]
   rfl
  | false =>
   rw [hb] at h
   simp only [cond_false, Option.map_eq_some_iff] at h
   obtain ⟨j', h1, rfl⟩ := h
   rw [List.getElem?_cons_succ]
   exact ixN_some h1
theorem ixN_none : ∀ {l : List Nat} {i : Nat}, ixN i l = none → i ∉ l
 | [], i, h => by simp
 | x :: l, i, h => by
  simp only [ixN] at h
  cases hb : Nat.beq x i with
  | true => rw [hb] at h; simp at h
  | false =>
   rw [hb] at h
   simp only [cond_false, Option.map_eq_none_iff] at h
   intro hm
   rcases List.mem_cons.1 hm with rfl | hm
   ·rw [Nat.beq_refl] at hb; simp at hb
   ·exact ixN_none h hm
theorem nodupN_spec : ∀ {l : List Nat}, nodupN l = true → ∀ (i j x : Nat), l[i]? = some x → l[j]? = some x → i = j
 | [], _, i, j, x, h, _ => by simp at h
 | y :: l, hn, i, j, x, h1, h2 => by
  simp only [nodupN, Bool.and_eq_true, Bool.not_eq_true'] at hn
  have hy : y ∉ l := fun hm => by rw [memN_iff.2 hm] at hn; simp at hn
  cases i with
  | zero =>
   simp only [List.getElem?_cons_zero, Option.some.injEq] at h1
   cases j with
   | zero => rfl
   | succ j =>
    rw [List.getElem?_cons_succ] at h2
    subst h1
    exact absurd (List.mem_of_getElem? h2) hy
  | succ i =>
   rw [List.getElem?_cons_succ] at h1
   cases j with
   | zero =>
    simp only [List.getElem?_cons_zero, Option.some.injEq] at h2
    subst h2
    exact absurd (List.mem_of_getElem? h1) hy
   | succ j =>
    rw [List.getElem?_cons_succ] at h2
    rw [nodupN_spec hn.2 i j x h1 h2]
theorem bit_or (q j k : Nat) : (q ||| 2 ^ j).testBit k = (q.testBit k || decide (j = k)) := by
 rw [Nat.testBit_or, Nat.testBit_two_pow]
structure DInvM (n : Nat) (w0 : World) (E0 : Env0) (ops : Array Oper) (sl0 : List (Nat × AV)) (es : List (Option (Nat × AV))) (ns : List Nat) (Hs : List (Nat × Heap)) (listed : Array Bool) (a : Act) (w : World) (q : Nat) (sl : List (Nat × AV)) : Prop where
 size : listed.size = ops.size
 qlt : q < 2 ^ ns.length
 cnt : ∀ j x, ns[j]? = some x → (listed.getD x false = true ↔ q.testBit j = true)
 rel : SRel n w0 E0 ⟨sl, hpM Hs q⟩ a w
 ent : ∀ i d v, listed.getD i false = true → (es[i]?).getD none = some (d, v) → look sl d = some v
 base : ∀ k v, look sl0 k = some v → (∀ i, listed.getD i false = true → dstOf ops i ≠ some k) → look sl k = some v
 clos : ∀ x, listed.getD x false = true → ∀ y ∈ aft ops x, listed.getD y false = true
theorem drawnM_all {sl0 : List (Nat × AV)} {es : List (Option (Nat × AV))} {ns : List Nat} {Hs : List (Nat × Heap)} {L : List (Nat × Nat)} (hok : drawOkM ops es ns L = true) (hst : AllP (StpM P n w0 E0 ops Q sl0 es ns Hs) L)
  (k : ∀ a w, SRel n w0 E0 ⟨fin ops es sl0, hpM Hs (2 ^ ns.length - 1)⟩ a w → ∃ s', SRel n w0 E0 s' a w ∧ Q .normal s') :
  ∀ (fuel : Nat) (listed : Array Bool) (a : Act) (w : World) (q : Nat) (sl : List (Nat × AV)), DInvM n w0 E0 ops sl0 es ns Hs listed a w q sl → ((List.range ops.size).filter fun i => !listed.getD i false).length ≤ fuel →
   wpAny P .any ops (fun e a' w' => ∃ s', SRel n w0 E0 s' a' w' ∧ Q e s') fuel listed a w := by
 simp only [drawOkM, Bool.and_eq_true, List.all_eq_true, List.mem_range] at hok
 obtain ⟨⟨⟨⟨⟨hnn, hnd⟩, hcov⟩, hns⟩, hlow⟩, hes⟩ := hok
 have hsz : ∀ (listed : Array Bool) x, listed.getD x false = true → x < listed.size := by
  intro listed x h
  rcases Nat.lt_or_ge x listed.size with h' | h'
  ·exact h'
  ·simp [Array.getElem?_eq_none h'] at h
 have hinj : ∀ i j d, i < ops.size → j < ops.size → dstOf ops i = some d → dstOf ops j = some d → i = j := by
  intro i j d hi hj h1 h2
  exact nodupO_spec hnd i j d (by simp [hi, h1]) (by simp [hj, h2])
 have hent : ∀ i d v, i < ops.size → (es[i]?).getD none = some (d, v) → dstOf ops i = some d := by
  intro i d v hi h
  have h1 := hes i hi
  cases he : es[i]? with
  | none => rw [he] at h; simp at h
  | some e =>
   rw [he] at h h1
   simp only [Option.getD_some] at h
   subst h
   exact eqO_iff.1 h1
 -- where all has been done
 have done : ∀ (listed : Array Bool) (a : Act) (w : World) (q : Nat) (sl : List (Nat × AV)), DInvM n w0 E0 ops sl0 es ns Hs listed a w q sl → (∀ i, i < ops.size → listed.getD i false = true) → ∃ s', SRel n w0 E0 s' a w ∧ Q .normal s' := by
  intro listed a w q sl hI hall
  have hq : q = 2 ^ ns.length - 1 := by
   apply Nat.eq_of_testBit_eq
   intro j
   rw [Nat.testBit_two_pow_sub_one]
   by_cases hj : j < ns.length
   ·have hx : ns[j]? = some ns[j] := List.getElem?_eq_getElem hj
    have h1 := hns ns[j] (List.getElem_mem hj)
    have h2 := hall ns[j] (by simpa [Nat.blt_eq] using h1)
    rw [(hI.cnt j _ hx).1 h2, decide_eq_true hj]
   ·rw [decide_eq_false hj]
    exact Nat.testBit_lt_two_pow (Nat.lt_of_lt_of_le hI.qlt (Nat.pow_le_pow_right (by omega) (by omega)))
  have hr := hI.rel
  rw [hq] at hr
  refine k a w (hr.le ?_)
  intro d v hv
  rcases look_append hv with h1 | h1
  ·obtain ⟨j, hj1, hj2⟩ := List.mem_filterMap.1 (look_mem h1)
   exact hI.ent j d v (hall j (by simpa using hj1)) hj2
  ·obtain ⟨h2, h3⟩ := look_filter (fun x => (List.range ops.size).all fun j => !eqO (dstOf ops j) x) h1
   refine hI.base d v h2 (fun i hi hd => ?_)
   have hlt : i < ops.size := by rw [← hI.size]; exact hsz _ _ hi
   simp only [List.all_eq_true, List.mem_range, Bool.not_eq_true'] at h3
   have := h3 i hlt
   rw [eqO_iff.2 hd] at this
   simp at this
 have ready_nil : ∀ (listed : Array Bool), listed.size = ops.size → Region.ready .any ops listed = [] → ∀ i, i < ops.size → listed.getD i false = true := by
  intro listed hs hr i
  induction i using Nat.strongRecOn with
  | _ i ih =>
   intro hi
   cases hl : listed.getD i false with
   | true => rfl
   | false =>
    exfalso
    have : i ∈ Region.ready .any ops listed := by
     rw [mem_ready]
     have hi' : i < listed.size := by omega
     refine ⟨?_, ops[i], by simp [hi], fun e he hb => ?_⟩
     ·simp only [Array.getD_eq_getD_getElem?, Array.getElem?_eq_getElem hi', Option.getD_some] at hl ⊢
      exact hl
     ·have hm : e.on ∈ aft ops i := (aft_of (by simp [hi])).2 ⟨e, he, hb, rfl⟩
      have hlt := hlow i hi e.on hm
      have hlt : e.on < i := by simpa [Nat.blt_eq] using hlt
      exact ih e.on hlt (by omega)
    rw [hr] at this
    simp at this
 intro fuel
 induction fuel with
 | zero =>
  intro listed a w q sl hI hf
  have hall : ∀ i, i < ops.size → listed.getD i false = true := by
   intro i hi
   cases hl : listed.getD i false with
   | true => rfl
   | false =>
    have : i ∈ (List.range ops.size).filter fun i => !listed.getD i false := by rw [List.mem_filter]; exact ⟨by simpa using hi, by simp only [hl, Bool.not_false]⟩
    have := List.length_pos_of_mem this
    omega
  refine ⟨?_, done listed a w q sl hI hall⟩
  rw [List.eq_nil_iff_forall_not_mem]
  intro i hi
  rw [mem_ready] at hi
  obtain ⟨h1, o, ho, _⟩ := hi
  have hlt := (Array.getElem?_eq_some_iff.1 ho).1
  have := hall i hlt
  have hi' : i < listed.size := by rw [hI.size]; exact hlt
  simp only [Array.getD_eq_getD_getElem?, Array.getElem?_eq_getElem hi', Option.getD_some] at this h1
  rw [this] at h1
  simp at h1
 | succ fuel ih =>
  intro listed a w q sl hI hf
  refine ⟨fun hr => done listed a w q sl hI (ready_nil listed hI.size hr), fun i hi => ?_⟩
  rw [mem_ready] at hi
  obtain ⟨hni, o, ho, hafter⟩ := hi
  have hlt := (Array.getElem?_eq_some_iff.1 ho).1
  have hi' : i < listed.size := by rw [hI.size]; exact hlt
  have hni : listed.getD i false = false := by
   simp only [Array.getD_eq_getD_getElem?, Array.getElem?_eq_getElem hi', Option.getD_some] at hni ⊢
   exact hni
  have haft : ∀ j ∈ aft ops i, listed.getD j false = true := by
   intro j hj
   obtain ⟨e, h1, h2, rfl⟩ := (aft_of ho).1 hj
   exact hafter e h1 h2
  have hself : ∀ j x, ns[j]? = some x → i = x → q.testBit j = false := by
   intro j x hx e
   subst e
   cases hb : q.testBit j with
   | false => rfl
   | true => have := (hI.cnt j i hx).2 hb; rw [hni] at this; simp at this
  have hokq : okqM ops ns i q = true := by
   simp only [okqM, List.all_eq_true, List.mem_range]
   intro j hj
   obtain ⟨x, hx⟩ : ∃ x, ns[j]? = some x := ⟨_, List.getElem?_eq_getElem hj⟩
   simp only [hx, Bool.and_eq_true, Bool.or_eq_true, Bool.not_eq_true', List.all_eq_true, List.mem_range]
   refine ⟨⟨⟨?_, ?_⟩, ?_⟩, ?_⟩
   ·cases hm : memN x (aft ops i) with
    | false => exact .inl rfl
    | true => exact .inr ((hI.cnt j x hx).1 (haft x (memN_iff.1 hm)))
   ·cases hm : memN i (aft ops x) with
    | false => exact .inl rfl
    | true =>
     refine .inr ?_
     cases hb : q.testBit j with
     | false => rfl
     | true =>
      have := hI.clos x ((hI.cnt j x hx).2 hb) i (memN_iff.1 hm)
      rw [hni] at this
      simp at this
   ·cases hm : Nat.beq i x with
    | false => exact .inl rfl
    | true => exact .inr (hself j x hx (Nat.eq_of_beq_eq_true hm))
   ·intro k hk
    obtain ⟨y, hy⟩ : ∃ y, ns[k]? = some y := ⟨_, List.getElem?_eq_getElem hk⟩
    simp only [hy, Bool.or_eq_true, Bool.not_eq_true']
    cases hm : memN x (aft ops y) with
    | false => exact .inl (.inl rfl)
    | true =>
     cases hb : q.testBit k with
     | false => exact .inl (.inr rfl)
     | true => exact .inr ((hI.cnt j x hx).1 (hI.clos y ((hI.cnt k y hy).2 hb) x (memN_iff.1 hm)))
  have hL : (i, q) ∈ L := by
   simp only [coversM, List.all_eq_true, List.mem_range] at hcov
   have := hcov i hlt q hI.qlt
   rw [hokq] at this
   simp only [Bool.not_true, Bool.false_or, List.any_eq_true, Bool.and_eq_true] at this
   obtain ⟨x, h1, h2, h3⟩ := this
   obtain ⟨x1, x2⟩ := x
   have e1 := Nat.eq_of_beq_eq_true h2
   have e2 := Nat.eq_of_beq_eq_true h3
   simp only at e1 e2
   subst e1 e2
   exact h1
  obtain ⟨o', ho', hstp⟩ := AllP.mem hst (i, q) hL
  simp only at ho' hstp
  rw [ho] at ho'
  simp only [Option.some.injEq] at ho'
  subst ho'
  have hle : Le (vw ops es sl0 i) sl := by
   intro d v hv
   rcases look_append hv with h1 | h1
   ·obtain ⟨j, hj1, hj2⟩ := List.mem_filterMap.1 (look_mem h1)
    exact hI.ent j d v (haft j hj1) hj2
   ·obtain ⟨h2, h3⟩ := look_filter (fun x => (List.range ops.size).all fun j => !eqO (dstOf ops j) x || memN i (aft ops j)) h1
    refine hI.base d v h2 (fun i2 hi2 hd => ?_)
    have hlt2 : i2 < ops.size := by rw [← hI.size]; exact hsz _ _ hi2
    simp only [List.all_eq_true, List.mem_range, Bool.or_eq_true, Bool.not_eq_true'] at h3
    rcases h3 i2 hlt2 with h4 | h4
    ·rw [eqO_iff.2 hd] at h4; simp at h4
    ·have := hI.clos i2 hi2 i (memN_iff.1 h4)
     rw [hni] at this
     simp at this
  have hvo := hstp sl hle a w hI.rel
  -- what holds behind it
  have next : ∀ a' w', SRel n w0 E0 ⟨putE ((es[i]?).getD none) sl, hpM Hs (nqM ns i q)⟩ a' w' → wpAny P .any ops (fun e a' w' => ∃ s', SRel n w0 E0 s' a' w' ∧ Q e s') fuel (listed.setIfInBounds i true) a' w' := by
   intro a' w' hr
   have hget : ∀ x, (listed.setIfInBounds i true).getD x false = true ↔ x = i ∨ listed.getD x false = true := by
    intro x
    by_cases hx : x = i
    ·subst hx
     simp [hi']
    ·rw [getD_set_ne false (Ne.symm hx)]
     simp [hx]
   refine ih _ a' w' (nqM ns i q) (putE ((es[i]?).getD none) sl) ⟨by simp [hI.size], ?_, ?_, hr, ?_, ?_, ?_⟩ ?_
   ·unfold nqM
    split
    ·rename_i j hj
     have hj2 := (List.getElem?_eq_some_iff.1 (ixN_some hj)).1
     exact Nat.or_lt_two_pow hI.qlt (Nat.pow_lt_pow_right (by omega) hj2)
    ·exact hI.qlt
   ·intro j x hx
    rw [hget, hI.cnt j x hx]
    unfold nqM
    split
    ·rename_i j0 hj0
     have hj0 := ixN_some hj0
     rw [bit_or]
     simp only [Bool.or_eq_true, decide_eq_true_eq]
     constructor
     ·rintro (rfl | h)
      ·exact .inr (nodupN_spec hnn j0 j x hj0 hx)
      ·exact .inl h
     ·rintro (h | rfl)
      ·exact .inr h
      ·rw [hj0] at hx
       simp only [Option.some.injEq] at hx
       exact .inl hx.symm
    ·rename_i hj0
     constructor
     ·rintro (rfl | h)
      ·exact absurd (List.mem_of_getElem? hx) (ixN_none hj0)
      ·exact h
     ·exact .inr
   ·intro i2 d v h1 h2
    rw [hget] at h1
    cases he : (es[i]?).getD none with
    | none =>
     rcases h1 with rfl | h1
     ·rw [he] at h2; simp at h2
     ·exact hI.ent i2 d v h1 h2
    | some x =>
     obtain ⟨d0, v0⟩ := x
     simp only [putE, look_put]
     rcases h1 with rfl | h1
     ·rw [he] at h2
      simp only [Option.some.injEq, Prod.mk.injEq] at h2
      rw [if_pos h2.1, h2.2]
     ·have hlt2 : i2 < ops.size := by rw [← hI.size]; exact hsz _ _ h1
      rw [if_neg]
      ·exact hI.ent i2 d v h1 h2
      ·intro e
       subst e
       have := hinj i i2 d0 hlt hlt2 (hent i d0 v0 hlt he) (hent i2 d0 v hlt2 h2)
       subst this
       rw [hni] at h1
       simp at h1
   ·intro d v h1 h2
    have hb := hI.base d v h1 (fun i2 hi2 => h2 i2 ((hget i2).2 (.inr hi2)))
    cases he : (es[i]?).getD none with
    | none => exact hb
    | some x =>
     obtain ⟨d0, v0⟩ := x
     simp only [putE, look_put]
     rw [if_neg]
     ·exact hb
     ·intro e
      subst e
      exact h2 i ((hget i).2 (.inl rfl)) (hent i d0 v0 hlt he)
   ·intro x hx y hy
    rw [hget] at hx ⊢
    rcases hx with rfl | hx
    ·exact .inr (haft y hy)
    ·exact .inr (hI.clos x hx y hy)
   ·have hsub : ((List.range ops.size).filter fun x => !(listed.setIfInBounds i true).getD x false).length < ((List.range ops.size).filter fun x => !listed.getD x false).length := by
     have hp : ∀ x, (!(listed.setIfInBounds i true).getD x false) = ((!listed.getD x false) && !decide (x = i)) := by
      intro x
      cases h1 : (listed.setIfInBounds i true).getD x false with
      | true =>
       rcases (hget x).1 h1 with h2 | h2
       ·simp [h2]
       ·rw [h2]; rfl
      | false =>
       have h2 : ¬ (x = i ∨ listed.getD x false = true) := fun h => by rw [(hget x).2 h] at h1; simp at h1
       have h3 : x ≠ i := fun e => h2 (.inl e)
       have h4 : listed.getD x false = false := by cases h5 : listed.getD x false with
        | true => exact absurd (.inr h5) h2
        | false => rfl
       rw [h4]
       simp [h3]
     have e : ((List.range ops.size).filter fun x => !(listed.setIfInBounds i true).getD x false) = ((List.range ops.size).filter fun x => !listed.getD x false).filter fun x => !decide (x = i) := by
      rw [List.filter_filter]
      congr 1
      funext x
      rw [hp x, Bool.and_comm]
     rw [e]
     refine List.length_filter_lt_length_iff_exists.2 ⟨i, ?_, by simp⟩
     rw [List.mem_filter]
     exact ⟨by simpa using hlt, by simp only [hni, Bool.not_false]⟩
    omega
  unfold wpOp
  rw [ho]
  simp only
  unfold wpList at hvo
  by_cases hwt : Region.wanted o (yielded ops a.tmps) = true
  ·rw [if_pos hwt] at hvo ⊢
   rcases hvo with hvo | ⟨hvo1, a1, w1, s1, h1, h2⟩
   ·refine .inl (Oper.wp_mono ?_ (wp_swap ?_ hvo))
    ·rintro a' w' ⟨s1, h1, h2⟩
     have h2 : s1 = _ := h2
     subst h2
     exact next a' w' h1
    ·rintro e a' w' hne ⟨s1, h1, h2⟩
     refine ⟨s1, h1, ?_⟩
     cases e with
     | normal => exact absurd rfl hne
     | exit id => exact h2
     | goto l => exact h2
     | ret => exact h2
     | panic c => exact h2
     | outgrown => exact h2
   ·exact .inr ⟨hvo1, a1, w1, s1, h1, h2⟩
  ·rw [if_neg hwt] at hvo ⊢
   obtain ⟨s1, h1, h2⟩ := hvo
   have h2 : s1 = _ := h2
   subst h2
   exact next _ _ h1
theorem VW.drawnM {id : Nat} (hm : P.follows .mixedOrders = true) (es : List (Option (Nat × AV))) (ns : List Nat) (Hs : List (Nat × Heap)) (L : List (Nat × Nat)) (keep π : List Nat) (hok : drawOkM ops es ns L = true) (h0 : hpM Hs 0 = s.H)
  (hst : AllP (StpM P n w0 E0 ops Q s.sl es ns Hs) L) (he : (bif nodup π then some ((⟨fin ops es s.sl, hpM Hs (2 ^ ns.length - 1)⟩ : St).ren keep π) else none) = some s') (k : Q .normal s') : VW P n w0 E0 (.region id ops true) Q s := by
 intro a w hs
 have hrep : ∀ x, (Array.replicate ops.size false).getD x false = false := by
  intro x
  rw [Array.getD_eq_getD_getElem?, Array.getElem?_replicate]
  split <;> rfl
 refine wp_region_any hm ?_
 refine drawnM_all hok hst ?_ ops.size _ a _ 0 s.sl ⟨by simp, Nat.two_pow_pos _, ?_, ?_, ?_, ?_, ?_⟩ ?_
 ·intro a' w' hr
  cases hn : nodup π with
  | false => rw [hn] at he; simp at he
  | true =>
   rw [hn] at he
   simp only [cond_true, Option.some.injEq] at he
   subst he
   exact ⟨_, Gh.ren keep π hn a' w' hr, k⟩
 ·intro j x hx
  rw [hrep]
  simp
 ·rw [h0]
  exact hs.drew
 ·intro i d v hi
  rw [hrep] at hi
  simp at hi
 ·exact fun k v hv _ => hv
 ·intro x hx
  rw [hrep] at hx
  simp at hx
 ·exact Nat.le_trans (List.length_filter_le _ _) (by simp)
theorem qT {es : List (Option (Nat × AV))} {ns : List Nat} {Hs : List Heap} {x : Nat × Nat} {o : Oper} (hT : TabOk P T) (ho : ops[x.1]? = some o := by rfl)
  (h : evR T n .dp ⟨vw ops es sl x.1, (Hs[x.2]?).getD []⟩ o = some (True, (es[x.1]?).getD none, (Hs[cond (memN x.1 ns) (x.2 + 1) x.2]?).getD []) := by kernel_rfl) : StpAt P n w0 E0 ops Q sl es ns Hs x :=
 ⟨o, ho, Stp.ev hT h trivial⟩
theorem mT {es : List (Option (Nat × AV))} {ns : List Nat} {Hs : List (Nat × Heap)} {x : Nat × Nat} {o : Oper} (hT : TabOk P T) (ho : ops[x.1]? = some o := by rfl)
  (h : evR T n .dp ⟨vw ops es sl x.1, hpM Hs x.2⟩ o = some (True, (es[x.1]?).getD none, hpM Hs (nqM ns x.1 x.2)) := by kernel_rfl) : StpM P n w0 E0 ops Q sl es ns Hs x :=
 ⟨o, ho, Stp.ev hT h trivial⟩
theorem sRh (hT : TabOk P T) (keep π : List Nat) (sl : List (Nat × AV)) {id : Nat} {y : Code} {φ : Prop} (hφ : φ) (k : VW P n w0 E0 y Q ⟨sl, s.H⟩) (h : evk T n ops .dp ops.toList.length ops.toList keep π s = some (φ, ⟨sl, s.H⟩) := by kernel_rfl) :
  VW P n w0 E0 (.seq (.region id ops false) y) Q s := VW.seqRg hT .dp keep π h hφ k
theorem sGh (hT : TabOk P T) (j : Nat) (keep π : List Nat) (sl : List (Nat × AV)) {φ : Prop} (hφ : φ) (k : VO P n w0 E0 ops Q (rest.drop j) ⟨sl, s.H⟩) (h : evk T n ops .dp j rest keep π s = some (φ, ⟨sl, s.H⟩) := by kernel_rfl) :
  VO P n w0 E0 ops Q rest s := VO.seg hT .dp j keep π h hφ k
theorem sNh (hT : TabOk P T) (keep π : List Nat) (sl : List (Nat × AV)) {φ : Prop} (hφ : φ) (k : Q .normal ⟨sl, s.H⟩) (h : evk T n ops .dp rest.length rest keep π s = some (φ, ⟨sl, s.H⟩) := by kernel_rfl) :
  VO P n w0 E0 ops Q rest s := VO.seg hT .dp rest.length keep π h hφ (by rw [List.drop_length]; exact VO.nil k)
end
abbrev lv (t : Ty) (x : t.den) : List Lf := leafs t x .fz
abbrev zi (n : Int) : Lf := .v (.int .i64) n
abbrev zb (b : Bool) : Lf := .v .bool b
abbrev zs (b : ByteArray) : Lf := .v .str b
abbrev wr (n : Int) : Int := IntKind.i64.wrap n
end Go.Proofs.YtnkgeljjjeeaaaaGreatDoor.Vc
namespace Go.Proofs.YtnkgeljjjeeaaaaGreatDoor.Vc
open Go Go.RowKit
set_option linter.unusedVariables false
def nx (T : Tab) (n : Nat) (ops : Array Oper) (l : List Oper) (s : St) : St := match evs T n ops .dp l s with
 | some (_, s') => s'
 | none => s
def nf (T : Tab) (n : Nat) (ops : Array Oper) (l : List Oper) (s : St) : Option Prop := match evs T n ops .dp l s with
 | some (φ, _) => some φ
 | none => none
inductive DSp where
 | cl (fr : List Nat) (d : Option Nat) (rs : List RC)
 | lit (b : Bool)
 | ev (fr : List Nat)
def lookS : List (Nat × DSp) → Nat → Option DSp
 | [], _ => none
 | (j, v) :: l, k => cond (Nat.beq j k) (some v) (lookS l k)
def frs : List Nat → St → St
 | [], s => s
 | i :: l, s => frs l ⟨frzV s.sl s.H i, frzHp s.H i⟩
def evRG (T : Tab) (n : Nat) (m : Md) (ops : Array Oper) (s : St) (o : Oper) : Option (Prop × Option (Nat × AV) × Heap) :=
 match o.guard with
 | none => evR T n m s o
 | some (j, want) => match ops[j]? with
  | some g => match g.dst with
   | some d => match opnd s.sl (.tmp d) with
    | some (.lf (.v .bool b)) => cond (b == want) (evR T n m s { o with guard := none }) (match o.dst with
     | some e => cond (Nat.blt e n) (some (True, some (e, .unk), s.H)) none
     | none => none)
    | some .unk => match o.dst with
     | some e => cond (Nat.blt e n) (some (True, some (e, .unk), s.H)) none
     | none => none
    | _ => none
   | none => none
  | none => none
structure DT where
 es : List (Option (Nat × AV))
 Hs : List Heap
 fs : List Prop
def evSp (T : Tab) (n : Nat) (ops : Array Oper) (s : St) (o : Oper) : Option DSp → Option (Prop × Option (Nat × AV) × Heap)
 | none => evRG T n .dp ops s o
 | some (.cl fr d rs) => some (True, d.map fun d => (d, resA (frs fr s).H.length rs), (frs fr s).H ++ ownsC rs)
 | some (.lit b) => some (True, o.dst.map fun d => (d, .lf (.v .bool b)), s.H)
 | some (.ev fr) => match evR T n .dp (frs fr s) { o with guard := none } with
  | some (_, e, H') => some (True, e, H')
  | none => none
def dRun (T : Tab) (n : Nat) (ops : Array Oper) (ns : List Nat) (sp : List (Nat × DSp)) (sl : List (Nat × AV)) : Nat → List Oper → List (Option (Nat × AV)) → Heap → DT
 | _, [], _, H => ⟨[], [H], []⟩
 | i, o :: l, es, H => match evSp T n ops ⟨es.filterMap id ++ sl, H⟩ o (lookS sp i) with
  | some (φ, e, H') => cond (memN i ns)
    ⟨e :: (dRun T n ops ns sp sl (i + 1) l (es ++ [e]) H').es, H :: (dRun T n ops ns sp sl (i + 1) l (es ++ [e]) H').Hs, φ :: (dRun T n ops ns sp sl (i + 1) l (es ++ [e]) H').fs⟩
    ⟨e :: (dRun T n ops ns sp sl (i + 1) l (es ++ [e]) H).es, (dRun T n ops ns sp sl (i + 1) l (es ++ [e]) H).Hs, φ :: (dRun T n ops ns sp sl (i + 1) l (es ++ [e]) H).fs⟩
  | none => ⟨[], [H], []⟩
def dD (T : Tab) (n : Nat) (ops : Array Oper) (ns : List Nat) (sp : List (Nat × DSp)) (s : St) : DT := dRun T n ops ns sp s.sl 0 ops.toList [] s.H
def AllT : List Prop → Prop
 | [] => True
 | p :: l => p ∧ AllT l
def dL (ops : Array Oper) (ns : List Nat) : List (Nat × Nat) :=
 (List.range ops.size).flatMap fun i => ((List.range (ns.length + 1)).filter fun q => okq ops ns i q).map fun q => (i, q)
def isSp (sp : List (Nat × DSp)) (x : Nat × Nat) : Bool := (lookS sp x.1).isSome
def dLhs (T : Tab) (n : Nat) (ops : Array Oper) (sl : List (Nat × AV)) (D : DT) (x : Nat × Nat) : Option (Prop × Option (Nat × AV) × Heap) := match ops[x.1]? with
 | some o => evRG T n .dp ops ⟨vw ops D.es sl x.1, (D.Hs[x.2]?).getD []⟩ o
 | none => none
def dRhs (ns : List Nat) (D : DT) (x : Nat × Nat) : Option (Prop × Option (Nat × AV) × Heap) :=
 some ((D.fs[x.1]?).getD True, (D.es[x.1]?).getD none, (D.Hs[cond (memN x.1 ns) (x.2 + 1) x.2]?).getD [])
def dOut (T : Tab) (n : Nat) (ops : Array Oper) (ns : List Nat) (sp : List (Nat × DSp)) (keep π : List Nat) (s : St) : St :=
 (⟨fin ops (dD T n ops ns sp s).es s.sl, ((dD T n ops ns sp s).Hs[ns.length]?).getD []⟩ : St).ren keep π
section
variable {P : Program} {T : Tab} {n : Nat} {w0 : World} {E0 : Env0} {s s' s'' : St} {ops : Array Oper} {Q : Exit → St → Prop} {rest : List Oper} {sl view : List (Nat × AV)} {H H' : Heap}
theorem nf_some {l : List Oper} {φ : Prop} (h : nf T n ops l s = some φ) : evs T n ops .dp l s = some (φ, nx T n ops l s) := by
 unfold nf at h
 unfold nx
 split at h
 ·rename_i e
  simp only [Option.some.injEq] at h
  subst h
  rw [e]
 ·simp at h
theorem nN (hT : TabOk P T) {φ : Prop} (hφ : φ) (k : Q .normal (nx T n ops rest s)) (h : nf T n ops rest s = some φ := by kernel_rfl) : VO P n w0 E0 ops Q rest s := by
 have h1 : VO P n w0 E0 ops Q [] (nx T n ops rest s) := VO.nil k
 have := evs_run (rest := []) hT (nf_some h) hφ h1
 rwa [List.append_nil] at this
theorem nG (hT : TabOk P T) (j : Nat) {φ : Prop} (hφ : φ) (k : VO P n w0 E0 ops Q (rest.drop j) (nx T n ops (rest.take j) s)) (h : nf T n ops (rest.take j) s = some φ := by kernel_rfl) : VO P n w0 E0 ops Q rest s := by
 have := evs_run hT (nf_some h) hφ k
 rwa [List.take_append_drop] at this
theorem nR (hT : TabOk P T) {id : Nat} {y : Code} {φ : Prop} (hφ : φ) (k : VW P n w0 E0 y Q (nx T n ops ops.toList s)) (h : nf T n ops ops.toList s = some φ := by kernel_rfl) : VW P n w0 E0 (.seq (.region id ops false) y) Q s :=
 VW.seqVO (nN hT hφ k h)
theorem nE (hT : TabOk P T) {id : Nat} {φ : Prop} (hφ : φ) (k : Q .normal (nx T n ops ops.toList s)) (h : nf T n ops ops.toList s = some φ := by kernel_rfl) : VW P n w0 E0 (.region id ops false) Q s :=
 VW.region (nN hT hφ k h)
theorem Stp.evG {o : Oper} {φ : Prop} {e : Option (Nat × AV)} (hT : TabOk P T) (h : evRG T n .dp ops ⟨view, H⟩ o = some (φ, e, H')) (hφ : φ) : Stp P n w0 E0 ops Q o view H e H' := by
 unfold evRG at h
 split at h
 ·exact Stp.ev hT h hφ
 ·rename_i j want hg
  split at h
  ·rename_i g hj
   split at h
   ·rename_i d hd
    split at h
    ·rename_i b hb
     cases hw : b == want with
     | true => rw [hw] at h; exact Stp.on hg hj hd hb (by simpa using hw) (Stp.ev hT h hφ)
     | false =>
      rw [hw] at h
      simp only [cond_false] at h
      split at h
      ·rename_i e' he
       cases hn : Nat.blt e' n with
       | false => rw [hn] at h; simp at h
       | true =>
        rw [hn] at h
        simp only [cond_true, Option.some.injEq, Prod.mk.injEq] at h
        obtain ⟨_, rfl, rfl⟩ := h
        exact Stp.off hg hj hd hb (by simpa using hw) he (by simpa [Nat.blt_eq] using hn)
      ·simp at h
    ·rename_i hb
     split at h
     ·rename_i e' he
      cases hn : Nat.blt e' n with
      | false => rw [hn] at h; simp at h
      | true =>
       rw [hn] at h
       simp only [cond_true, Option.some.injEq, Prod.mk.injEq] at h
       obtain ⟨_, rfl, rfl⟩ := h
       exact Stp.off2 hg hj hd hb he (by simpa [Nat.blt_eq] using hn)
     ·simp at h
    ·simp at h
   ·simp at h
  ·simp at h
theorem AllP.of {α : Type} {f : α → Prop} : ∀ {l : List α}, (∀ x ∈ l, f x) → AllP f l
 | [], _ => trivial
 | y :: l, h => ⟨h y List.mem_cons_self, AllP.of fun x hx => h x (List.mem_cons_of_mem _ hx)⟩
theorem AllT.get : ∀ {l : List Prop} (i : Nat), AllT l → (l[i]?).getD True
 | [], i, _ => by simp
 | p :: l, 0, h => by simpa using h.1
 | p :: l, i + 1, h => by simpa using AllT.get i h.2
theorem dr (hT : TabOk P T) (sp : List (Nat × DSp)) (L : List (Nat × Nat)) (ns keep π : List Nat) {id : Nat} {φ : Prop} (hφ : φ) (hsp : AllP (StpAt P n w0 E0 ops Q s.sl (dD T n ops ns sp s).es ns (dD T n ops ns sp s).Hs) L)
  (k : Q .normal (dOut T n ops ns sp keep π s)) (hL : (dL ops ns).filter (isSp sp) = L := by kernel_rfl) (hm : P.follows .mixedOrders = true := by kernel_rfl) (h1 : AllT (dD T n ops ns sp s).fs = φ := by kernel_rfl)
  (hok : (drawOk ops (dD T n ops ns sp s).es ns (dL ops ns) && nodup π) = true := by kernel_rfl) (h0 : ((dD T n ops ns sp s).Hs[0]?).getD [] = s.H := by kernel_rfl)
  (h2 : ((dL ops ns).filter fun x => !isSp sp x).map (dLhs T n ops s.sl (dD T n ops ns sp s)) = ((dL ops ns).filter fun x => !isSp sp x).map (dRhs ns (dD T n ops ns sp s)) := by kernel_rfl) : VW P n w0 E0 (.region id ops true) Q s := by
 obtain ⟨hd, hn⟩ := Bool.and_eq_true_iff.1 hok
 refine VW.drawn hm _ ns _ (dL ops ns) keep π hd h0 (AllP.of fun x hx => ?_) (s' := dOut T n ops ns sp keep π s) (by rw [hn]; rfl) k
 cases hs : isSp sp x with
 | true => exact AllP.mem hsp x (hL ▸ List.mem_filter.2 ⟨hx, hs⟩)
 | false =>
  have h3 := List.map_inj_left.1 h2 x (List.mem_filter.2 ⟨hx, by rw [hs]; rfl⟩)
  unfold dLhs dRhs at h3
  split at h3
  ·rename_i o ho
   exact ⟨o, ho, Stp.evG hT h3 (AllT.get x.1 (h1 ▸ hφ))⟩
  ·simp at h3
def gOn (ops : Array Oper) (sl : List (Nat × AV)) (o : Oper) : Bool := match o.guard with
 | none => true
 | some (j, want) => match ops[j]? with
  | some g => match g.dst with
   | some d => match opnd sl (.tmp d) with
    | some (.lf (.v .bool b)) => b == want
    | _ => false
   | none => false
  | none => false
theorem Stp.gon {o : Oper} {e : Option (Nat × AV)} (hg : gOn ops view o = true) (h : Stp P n w0 E0 ops Q { o with guard := none } view H e H') : Stp P n w0 E0 ops Q o view H e H' := by
 unfold gOn at hg
 split at hg
 ·rename_i h1
  have : ({ o with guard := none } : Oper) = o := by rw [← h1]
  rwa [this] at h
 ·rename_i j want h1
  split at hg
  ·rename_i g hj
   split at hg
   ·rename_i d hd
    split at hg
    ·rename_i b hb
     exact Stp.on h1 hj hd hb (by simpa using hg) h
    ·simp at hg
   ·simp at hg
  ·simp at hg
def noneAt (H : Heap) (i : Nat) : Bool := match H[i]? with
 | some none => true
 | _ => false
def frOk : List Nat → St → Heap → Bool
 | [], _, _ => true
 | i :: l, s, H' => isArr s.H i && noneAt H' i && frOk l ⟨frzV s.sl s.H i, frzHp s.H i⟩ H'
theorem Stp.frs {o : Oper} {e : Option (Nat × AV)} : ∀ (fr : List Nat) {s : St}, frOk fr s H' = true → Stp P n w0 E0 ops Q o (Vc.frs fr s).sl (Vc.frs fr s).H e H' → Stp P n w0 E0 ops Q o s.sl s.H e H'
 | [], _, _, h => h
 | i :: l, s, hk, h => by
  simp only [frOk, Bool.and_eq_true] at hk
  refine Stp.frz i hk.1.1 (Stp.frs l hk.2 h) ?_
  have := hk.1.2
  unfold noneAt at this
  split at this
  ·assumption
  ·simp at this
theorem qC {es : List (Option (Nat × AV))} {ns : List Nat} {Hs : List Heap} {x : Nat × Nat} {o : Oper} (br : Bool) (tys cts : List PT) (fr : List Nat) (d : Option Nat) {f : FuncId} {ps : List AV} {rs : List RC} (hT : TabOk P T) (hc : Con P f ps rs)
  (ho : ops[x.1]? = some o := by rfl) (hg : gOn ops (vw ops es sl x.1) o = true := by kernel_rfl) (h : evArgs br tys cts n (frs fr ⟨vw ops es sl x.1, (Hs[x.2]?).getD []⟩) { o with guard := none } = some (d, f, ps) := by kernel_rfl) (hsel : (cond br (selfish rs) true) = true := by rfl)
  (h1 : (d.map fun d => (d, resA (frs fr ⟨vw ops es sl x.1, (Hs[x.2]?).getD []⟩).H.length rs)) = (es[x.1]?).getD none := by kernel_rfl) (h2 : (frs fr ⟨vw ops es sl x.1, (Hs[x.2]?).getD []⟩).H ++ ownsC rs = (Hs[cond (memN x.1 ns) (x.2 + 1) x.2]?).getD [] := by kernel_rfl)
  (h3 : frOk fr ⟨vw ops es sl x.1, (Hs[x.2]?).getD []⟩ ((Hs[cond (memN x.1 ns) (x.2 + 1) x.2]?).getD []) = true := by kernel_rfl) (ht : Tabs P w0 E0.toEnv := by assumption) : StpAt P n w0 E0 ops Q sl es ns Hs x :=
 ⟨o, ho, Stp.gon hg (Stp.frs fr h3 (Stp.eq (Stp.call br tys cts hT h hc hsel) h1 h2))⟩
theorem qE {es : List (Option (Nat × AV))} {ns : List Nat} {Hs : List Heap} {x : Nat × Nat} {o : Oper} (fr : List Nat) (hT : TabOk P T) {φ : Prop} (hφ : φ)
  (ho : ops[x.1]? = some o := by rfl) (hg : gOn ops (vw ops es sl x.1) o = true := by kernel_rfl) (h : evR T n .dp (frs fr ⟨vw ops es sl x.1, (Hs[x.2]?).getD []⟩) { o with guard := none } = some (φ, (es[x.1]?).getD none, (Hs[cond (memN x.1 ns) (x.2 + 1) x.2]?).getD []) := by kernel_rfl)
  (h3 : frOk fr ⟨vw ops es sl x.1, (Hs[x.2]?).getD []⟩ ((Hs[cond (memN x.1 ns) (x.2 + 1) x.2]?).getD []) = true := by kernel_rfl) : StpAt P n w0 E0 ops Q sl es ns Hs x :=
 ⟨o, ho, Stp.gon hg (Stp.frs fr h3 (Stp.ev hT h hφ))⟩
theorem qB {es : List (Option (Nat × AV))} {ns : List Nat} {Hs : List Heap} {x : Nat × Nat} {o : Oper} (d : Nat) {b c : Bool} (hb : b = c) (hT : TabOk P T) {φ : Prop} (hφ : φ)
  (ho : ops[x.1]? = some o := by rfl) (h : evRG T n .dp ops ⟨vw ops es sl x.1, (Hs[x.2]?).getD []⟩ o = some (φ, some (d, .lf (.v .bool b)), (Hs[x.2]?).getD []) := by kernel_rfl)
  (h1 : some (d, AV.lf (.v .bool c)) = (es[x.1]?).getD none := by kernel_rfl) (h2 : (Hs[x.2]?).getD [] = (Hs[cond (memN x.1 ns) (x.2 + 1) x.2]?).getD [] := by kernel_rfl) : StpAt P n w0 E0 ops Q sl es ns Hs x :=
 ⟨o, ho, Stp.eq (Stp.lit (Stp.evG hT h hφ) hb) h1 h2⟩
def stC (d : Option Nat) (rs : List RC) (s : St) : St := ⟨putA d (resA s.H.length rs) s.sl, s.H ++ ownsC rs⟩
def stB (d : Nat) (b : Bool) (s : St) : St := ⟨(d, .lf (.v .bool b)) :: s.sl, s.H⟩
theorem clc (br : Bool) (tys cts : List PT) {o : Oper} (d : Option Nat) {f : FuncId} {ps : List AV} {rs : List RC} (hT : TabOk P T) (hc : Con P f ps rs)
  (k : VO P n w0 E0 ops Q rest (stC d rs s)) (h : evArgs br tys cts n s o = some (d, f, ps) := by kernel_rfl) (hsel : (cond br (selfish rs) true) = true := by rfl) (ht : Tabs P w0 E0.toEnv := by assumption) :
  VO P n w0 E0 ops Q (o :: rest) s := VO.call br tys cts hT h hc hsel k
theorem spC (d : Nat) {b : Bool} {α : Type} {u v : Option α} {r : α} (h : cond b u v = some r) (h1 : u = some r → VO P n w0 E0 ops Q rest (stB d true s)) (h2 : v = some r → VO P n w0 E0 ops Q rest (stB d false s))
  (hb : look s.sl d = some (.lf (.v .bool b)) := by kernel_rfl) : VO P n w0 E0 ops Q rest s :=
 VO.splitB d hb (fun e => h1 (cond_t h e)) (fun e => h2 (cond_f h e))
theorem sq {x y : Code} (h : VW P n w0 E0 x (thenQ (VW P n w0 E0 y Q) Q) s) : VW P n w0 E0 (.seq x y) Q s := VW.seq h
end
theorem gS {α : Type} {φ : Prop} [Decidable φ] {x : Option α} {r : α} (h : gd φ x = some r) : φ ∧ x = some r := gd_some h
theorem aS {α β : Type} {x : Option α} {k : α → Option β} {r : β} (h : andO x k = some r) : ∃ a, x = some a ∧ k a = some r := andO_some h
abbrev hh (i : Nat) : AV := .lf (.hd i 0 none)
abbrev Vv (t : Ty) (x : t.den) : AV := .lf (.v t x)
end Go.Proofs.YtnkgeljjjeeaaaaGreatDoor.Vc
namespace Go.Proofs.YtnkgeljjjeeaaaaGreatDoor.Vc
open Go Go.RowKit
set_option linter.unusedVariables false
set_option linter.unusedSimpArgs false
section
variable {P : Program} {T : Tab} {n : Nat} {w0 : World} {E0 : Env0} {s s' s'' : St} {ops : Array Oper} {Q : Exit → St → Prop} {rest : List Oper}
variable {w w' : World} {E E' : Env} {μ μ' : Nat → Value} {H H' : Heap}
def evAppY (T : Tab) (n : Nat) (s : St) (o : Oper) : Option (Nat × Prop × AV × Heap) :=
 match o.guard, o.dst, o.op with
 | none, some d, .call { callee := .builtin .append, args, argTypes } => cond (Nat.blt d n) (match args.toList, argTypes.toList with
  | [x, y], [t, t'] => cond (Nat.beq t t') (match elemTy T t, opnd s.sl x, opnd s.sl y with
   | some (_, e), some (.lf (.hd id ver none)), some (.lf (.hd l vl none)) => match s.H[id]?, s.H[l]? with
    | some (some (.arr cur e1 xs m1)), some (some (.arr cl e2 ys m2)) => cond (Nat.beq ver cur && Nat.beq vl cl && !Nat.beq id l && decide (m1 = .dp) && decide (m2 = .dp)) (match castL e1 e xs, castL e2 e ys with
     | some xs', some ys' => some (d, (xs'.length + ys'.length ≤ lim e), .lf (.hd id (ver + 1) none), (s.H.set l none).set id (some (.arr (ver + 1) e (xs' ++ ys') .dp)))
     | _, _ => none) none
    | _, _ => none
   | _, _, _ => none) none
  | _, _ => none) none
 | _, _, _ => none
theorem app_mz {a : Act} (hT : TabOk P T) (hA : At n w0 E0 s a w E μ) {o : Oper} {c : Call} {x y : Operand} {t : TypeId} {d : Nat} (ho : o.op = .call c) (hcal : c.callee = .builtin .append) (hargs : c.args = #[x, y]) (hts : c.argTypes = #[t, t])
  (hg : o.guard = none) (hd : o.dst = some d) (hdn : d < n) {ti : TI} {e : Ty} (he : elemTy T t = some (ti, e)) {ys xs : List e.den} {id ver l vl : Nat} (hH : s.H[id]? = some (some (.arr ver e xs .dp))) (hL : s.H[l]? = some (some (.arr vl e ys .dp))) (hne : id ≠ l)
  (hx : a.eval x = μ id) (hy : a.eval y = μ l) (hl : xs.length + ys.length ≤ lim e)
  (k : VO P n w0 E0 ops Q rest ⟨(d, .lf (.hd id (ver + 1) none)) :: s.sl, (s.H.set l none).set id (some (.arr (ver + 1) e (xs ++ ys) .dp))⟩) :
  wpList P ops (fun e a' w' => ∃ s', SRel n w0 E0 s' a' w' ∧ Q e s') (o :: rest) a w := by
 by_cases hys : ys = []
 ·subst hys
  obtain ⟨f1, ej, f2, f3⟩ := elemTy_under hT he
  obtain ⟨info, g1, g2, g3, _, g5, g6⟩ := (hT _ _ f2).info
  rw [f3] at g2 g3 g6
  obtain ⟨z, hz, hz'⟩ := Option.map_eq_some_iff.1 g3
  have hpos := lv_pos e
  have hzs : z.cells.size = e.lv := by rw [← Array.length_toList, hz', zeros_length]
  have hlim0 : lim e ≤ 140737488355328 := Nat.div_le_self _ _
  have hfit : (xs.length + 0) * info.bytes ≤ 140737488355328 := by
   have a2 : lim e * (24 * e.lv) ≤ 140737488355328 := Nat.div_mul_le_self _ _
   have a3 : (xs.length + 0) * info.bytes ≤ lim e * (24 * e.lv) := Nat.mul_le_mul (by simpa using hl) (by omega)
   omega
  have hidlt : id < s.H.length := (List.getElem?_eq_some_iff.1 hH).1
  have hllt : l < s.H.length := (List.getElem?_eq_some_iff.1 hL).1
  obtain ⟨_, hrl⟩ := hA.mr.arr hL
  obtain ⟨ad, cl, i1⟩ : ∃ ad cl, μ l = .slice ad 0 cl := by
   rcases hrl with ⟨_, ad, h0⟩ | ⟨gl, cl, arl, tyl, i1, _⟩
   ·exact ⟨ad, 0, h0⟩
   ·exact ⟨_, cl, i1⟩
  obtain ⟨hm, hrow⟩ := hA.mr.arr hH
  obtain ⟨base, sCap, olds, ty, b1, b2, b3, b4⟩ : ∃ (base : Option Addr) (sCap : Nat) (olds : List Value) (ty : TypeId), μ id = .slice base xs.length sCap ∧ xs.length ≤ sCap ∧ olds.length = xs.length * e.lv ∧
    ((sCap = 0 ∧ olds = []) ∨ ∃ g cur, base = some ⟨g, 0, none⟩ ∧ w.heap[g]? = some (.cells cur ty (0, 0)) ∧ cur.size = sCap * e.lv ∧ ∀ (j : Nat) v, olds[j]? = some v → w.cell? ((⟨g, 0, none⟩ : Addr).add j) = some v) := by
   rcases hrow with ⟨rfl, ad0, h0⟩ | ⟨g, c', arr, ty, h1, h2, h3, h4, h5, h6⟩
   ·exact ⟨ad0, 0, [], 0, by simpa using h0, by simp, by simp, .inl ⟨rfl, rfl⟩⟩
   ·have hmul : xs.length * e.lv ≤ c' * e.lv := Nat.mul_le_mul_right _ h2
    refine ⟨some ⟨g, 0, none⟩, c', arr.toList.take (xs.length * e.lv), ty, h1, h2, by simp; omega, .inr ⟨g, arr, rfl, h3, h4, fun j v hv => ?_⟩⟩
    rw [add_at, Nat.zero_add]
    have hj := (List.getElem?_eq_some_iff.1 hv).1
    simp only [List.length_take] at hj
    simp only [World.cell?, h3, Option.isSome_none, Bool.false_eq_true, if_false]
    rw [List.getElem?_take, if_pos (by omega), Array.getElem?_toList] at hv
    exact hv
  obtain ⟨y', w', hrun, hcase⟩ := append_run (P := P) (w := w) (ty := ty) (ti := ti) f1 g1 hz g2 hzs hpos o.type (base := base) (sLen := xs.length) (sCap := sCap) (olds := olds) b3 b2 b4 (ad := ad) (m := 0) (c := cl) (news := []) (by simp) (fun h => absurd h (by omega)) (fun v h => by simp at h) (by simpa using hfit) (by simp at hl; omega)
  have hcase : y' = .slice base xs.length sCap ∧ w' = w := by
   rcases hcase with ⟨_, h1, h2⟩ | ⟨h0, _⟩ | ⟨h0, _⟩
   ·exact ⟨h1, h2⟩
   ·omega
   ·omega
  obtain ⟨hy0, hw0⟩ := hcase
  rw [hy0, hw0] at hrun
  refine wpList_value (y := .slice base xs.length sCap) (w' := w) hg ?_ ?_
  ·simp only [execOp, ho, resolve, hcal, hargs, hts, Sem.run_bind, Sem.run_pure, Result.andThen_ok, invoke, builtin]
   simp only [List.map_toArray, List.map_cons, List.map_nil, hx, hy, b1, i1, hrun, Result.andThen_ok]
  ·rw [hd]
   let H2 : Heap := (s.H.set l none).set id (some (.arr (ver + 1) e (xs ++ []) .dp))
   have hH2 : H2.length = s.H.length := by simp [H2]
   have hat : ∀ q, q ≠ id → q ≠ l → H2[q]? = s.H[q]? := fun q h1 h2 => by simp only [H2]; rw [List.getElem?_set_ne (Ne.symm h1), List.getElem?_set_ne (Ne.symm h2)]
   have hatl : H2[l]? = some none := by simp only [H2]; rw [List.getElem?_set_ne hne, List.getElem?_set_self hllt]
   have hati : H2[id]? = some (some (.arr (ver + 1) e (xs ++ []) .dp)) := by simp only [H2]; rw [List.getElem?_set_self (by simpa using hidlt)]
   have hS : ∀ b, E.S b → E.S b ∧ w.heap[b]? = w.heap[b]? := fun b hb => ⟨hb, rfl⟩
   have hKp : KpH μ μ s.H H2 := by
    intro q c hc
    by_cases h1 : q = id
    ·subst h1
     rw [hH] at hc
     simp only [Option.some.injEq] at hc
     subst hc
     exact ⟨_, hati, .inl (Nat.lt_succ_self _)⟩
    ·by_cases h2 : q = l
     ·subst h2
      exact ⟨none, hatl, trivial⟩
     ·exact ⟨c, by rw [hat q h1 h2]; exact hc, Kp.refl _ _⟩
   have hM : MR w E μ H2 0 := by
    refine MR.step hA.mr hA.mr.apart hA.mr.ltS hA.mr.ltκ (fun b r q h => by rw [hH2]; exact hA.mr.roots b r q h) hS hKp (fun i blk hi => ?_)
    by_cases hid : i = id
    ·subst hid
     rw [hati] at hi
     simp only [Option.some.injEq] at hi
     subst hi
     refine .inr ?_
     rw [List.append_nil]
     exact hA.mr.blks i _ hH
    ·by_cases hil : i = l
     ·subst hil
      rw [hatl] at hi
      simp at hi
     ·rw [hat i hid hil] at hi
      exact .inl ⟨hi, rfl, fun b q hq => ⟨hq, rfl⟩⟩
   have hAR : AR w E μ H2 (.lf (.hd id (ver + 1) none)) (.slice base xs.length sCap) := by
    simp [AR, LR, HdR, hati, b1, Value.oneCell']
   exact k _ _ (hA.put hdn hM (Ext.refl w E) hS hKp hAR).rel
 ·exact app_mv hT hA ho hcal hargs hts hg hd hdn he hH hL hne hys hx hy hl k
theorem VO.appY {o : Oper} {d : Nat} {φ : Prop} {v : AV} {H' : Heap} (hT : TabOk P T) (h : evAppY T n s o = some (d, φ, v, H')) (hφ : φ) (k : VO P n w0 E0 ops Q rest ⟨(d, v) :: s.sl, H'⟩) : VO P n w0 E0 ops Q (o :: rest) s := by
 intro a w hs
 obtain ⟨E, μ, hA⟩ := hs.at
 unfold evAppY at h
 split at h
 ·rename_i d' args argTypes hg hd ho
  cases hb : Nat.blt d' n with
  | false => rw [hb] at h; simp at h
  | true =>
   rw [hb] at h
   simp only [cond_true] at h
   have hdn : d' < n := by simpa [Nat.blt_eq] using hb
   split at h
   ·rename_i x y t t' hx hy
    cases ht : Nat.beq t t' with
    | false => rw [ht] at h; simp at h
    | true =>
     rw [ht] at h
     have := Nat.eq_of_beq_eq_true ht
     subst this
     simp only [cond_true] at h
     split at h
     ·rename_i ti e id ver l vl he hox hoy
      split at h
      ·rename_i cur e1 xs m1 cl e2 ys m2 hH hL
       cases hc : (Nat.beq ver cur && Nat.beq vl cl && !Nat.beq id l && decide (m1 = .dp) && decide (m2 = .dp)) with
       | false => rw [hc] at h; simp at h
       | true =>
        rw [hc] at h
        simp only [Bool.and_eq_true, decide_eq_true_eq, Bool.not_eq_true'] at hc
        obtain ⟨⟨⟨⟨hv, hvl⟩, hil⟩, rfl⟩, rfl⟩ := hc
        have hv := Nat.eq_of_beq_eq_true hv
        have hvl := Nat.eq_of_beq_eq_true hvl
        subst hv hvl
        have hne : id ≠ l := fun e => by subst e; simp at hil
        simp only [cond_true] at h
        split at h
        ·rename_i xs' ys' hc1 hc2
         simp only [Option.some.injEq, Prod.mk.injEq] at h
         obtain ⟨rfl, rfl, rfl, rfl⟩ := h
         obtain ⟨h1, h2⟩ := castL_eq hc1
         subst h1
         obtain ⟨h3, h4⟩ := castL_eq hc2
         subst h3
         simp only [cast_eq] at h2 h4
         subst h2
         subst h4
         have e1 := (hA.opnd hox).2
         rw [hH] at e1
         have e2 := (hA.opnd hoy).2
         rw [hL] at e2
         exact app_mz hT hA ho rfl (by rw [← hx]) (by rw [← hy]) hg hd hdn he hH hL hne (e1.2 rfl) (e2.2 rfl) hφ k
        ·simp at h
      ·simp at h
     ·simp at h
   ·simp at h
 ·simp at h
theorem Stp.litA {o : Oper} {view : List (Nat × AV)} {d : Nat} {v : AV} (hT : TabOk P T) (h : evLitA T n ⟨view, H⟩ o = some (d, v, H')) : Stp P n w0 E0 ops Q o view H (some (d, v)) H' := by
 intro sl hle
 have h2 : evLitA T n ⟨sl, H⟩ o = some (d, v, H') := by
  unfold evLitA at h ⊢
  split at h
  ·rename_i d' t parts hg hd ho
   simp only [hg, hd, ho]
   cases hb : Nat.blt d' n with
   | false => simp [hb] at h
   | true =>
    rw [hb] at h
    simp only [cond_true] at h ⊢
    split at h
    ·rename_i ti e he
     try simp only [he]
     split at h
     ·rename_i cs hrows
      rw [hle.litRows hrows]
      exact h
     ·simp at h
    ·simp at h
  ·simp at h
 exact VO.litA hT h2 (VO.nil rfl)
end
end Go.Proofs.YtnkgeljjjeeaaaaGreatDoor.Vc
namespace Go.Proofs.YtnkgeljjjeeaaaaGreatDoor.Vc
open Go Go.RowKit
set_option linter.unusedVariables false
set_option linter.unusedSimpArgs false
def hdE (E : Env) (id b0 k0 b3 : Nat) : Env := ⟨E.S, fun c => if c = b3 then some (.id id, .inside b0 k0) else if E.κ c = some (.id id, .inside b0 k0) then none else E.κ c⟩
section
variable {P : Program} {T : Tab} {n : Nat} {w0 : World} {E0 : Env0} {s s' s'' : St} {ops : Array Oper} {Q : Exit → St → Prop} {rest : List Oper}
variable {w w' : World} {E E' : Env} {μ μ' : Nat → Value} {H H' : Heap}
theorem indexAt_any (hT : TabOk P T) {t : TypeId} {e : Ty} (h : elemIs T t e = true) {b o len cap : Nat} {kk : IntKind} {z : Int} (h0 : 0 ≤ z) (h1 : z < (len : Int)) (w : World) :
  (Instr.indexAt t (.slice (some ⟨b, o, none⟩) len cap) (.int kk z)).run P w = .ok (.pointer (some ⟨b, o + z.toNat * e.lv, none⟩)) w := by
 obtain ⟨ti, ej, _, _, hu, he, hej⟩ := elemIs_under hT h
 have htiny : (match (TypeDesc.slice ti.elem : TypeDesc) with | .array .. => true | _ => false) = false := rfl
 simp [Instr.indexAt, asIntOf, run_underlying hu, h0, h1, hT.size he, add_at, hej]
theorem fieldAt_any (hT : TabOk P T) {t : TypeId} {f o : Nat} (ho : offOf T t f = some o) (b q : Nat) (w : World) : (Instr.fieldAt t (.pointer (some ⟨b, q, none⟩)) f).run P w = .ok (.pointer (some ⟨b, q + o, none⟩)) w := by
 unfold offOf at ho
 split at ho
 ·rename_i ti hi
  split at ho
  ·rename_i a c hty
   have hu := (hT t ti hi).under
   rw [hty] at hu
   obtain ⟨fs, h1, h2, _⟩ := hu
   obtain ⟨fl, info', h3, h4, h5, h6⟩ := h2 f o ho
   simp only [Instr.fieldAt, Sem.run_bind, run_underlying h1, Result.andThen_ok, h3, Instr.sureAddr, Sem.run_pure, fieldPlace, run_sizeOf' h5, if_neg h6, h4, add_at]
  ·simp at ho
 ·simp at ho
theorem hdr_mr (hM : MR w E μ H 0) {id cur i j b0 : Nat} {e : Ty} {xs : List e.den} (hH : H[id]? = some (some (.arr cur e xs .dp))) (hi : i < xs.length) {t' : Ty} {ys ys' : List t'.den} {x' : e.den} {c0 : Nat} {arr0 arr4 : Array Value} {ty0 : TypeId}
  (hμ : μ id = .slice (some ⟨b0, 0, none⟩) xs.length c0) (hcap : xs.length ≤ c0) (hheap : w.heap[b0]? = some (.cells arr0 ty0 (0, 0))) (hsz : arr0.size = c0 * e.lv) (hκ0 : E.κ b0 = some (.id id, .top))
  (hrows : ∀ i (h : i < xs.length), Rep w E (.id id) e xs[i] .dp (fun j => .inside b0 (i * e.lv + j)) (fun j => cellAt w b0 (i * e.lv + j)))
  (hj : j < e.lv) (hget : (leafs e xs[i] .fz)[j]? = some (.v (.sl t') ys)) (hset : setLf e xs[i] j (.v (.sl t') ys') .fz = some x') {b3 : Nat} {y3 : Value}
  (hos : w'.os = w.os) (htp : w'.tape = w.tape) (hout : w'.output = w.output) (hle : w.heap.size ≤ w'.heap.size) (hb30 : b3 ≠ b0) (hb3 : E.κ b3 = some (.id id, .inside b0 (i * e.lv + j)) ∨ w.heap.size ≤ b3) (hb3l : b3 < w'.heap.size)
  (hb0 : w'.heap[b0]? = some (.cells arr4 ty0 (0, 0))) (hsz4 : arr4.size = arr0.size) (hcell : ∀ q, q ≠ i * e.lv + j → arr4[q]? = arr0[q]?) (hcellk : arr4[i * e.lv + j]? = some y3) (hoth : ∀ c, c < w.heap.size → c ≠ b0 → c ≠ b3 → w'.heap[c]? = w.heap[c]?)
  (hnew : Rep w' (hdE E id b0 (i * e.lv + j) b3) (.id id) (.sl t') ys' .dp (fun _ => .inside b0 (i * e.lv + j)) (at0 y3)) :
  MR w' (hdE E id b0 (i * e.lv + j) b3) μ (H.set id (some (.arr cur e (xs.set i x') .dp))) 0 ∧ Ext w E w' (hdE E id b0 (i * e.lv + j) b3) ∧ (∀ b, E.S b → (hdE E id b0 (i * e.lv + j) b3).S b ∧ w'.heap[b]? = w.heap[b]?) ∧ KpH μ μ H (H.set id (some (.arr cur e (xs.set i x') .dp))) := by
 have hidlt : id < H.length := (List.getElem?_eq_some_iff.1 hH).1
 have hb3n : ∀ c, c < w.heap.size → E.κ c ≠ some (.id id, .inside b0 (i * e.lv + j)) → c ≠ b3 := by
  intro c hc hk e
  subst e
  rcases hb3 with h | h
  ·exact hk h
  ·omega
 have hSne : ∀ c, E.S c → c ≠ b0 ∧ c ≠ b3 := fun c hc => by
  have hk := hM.apart c hc
  refine ⟨fun e => ?_, hb3n c (hM.ltS c hc) (by rw [hk]; simp)⟩
  subst e
  rw [hκ0] at hk
  simp at hk
 have hS : ∀ b, E.S b → (hdE E id b0 (i * e.lv + j) b3).S b ∧ w'.heap[b]? = w.heap[b]? := fun b hb => ⟨hb, hoth b (hM.ltS b hb) (hSne b hb).1 (hSne b hb).2⟩
 have hkeep : ∀ c r q, E.κ c = some (r, q) → (r, q) ≠ (.id id, .inside b0 (i * e.lv + j)) → (hdE E id b0 (i * e.lv + j) b3).κ c = some (r, q) ∧ c ≠ b3 := by
  intro c r q hc hne
  have h3 : c ≠ b3 := hb3n c (hM.ltκ c (by simp [hc])) (by rw [hc]; simpa using hne)
  refine ⟨?_, h3⟩
  simp only [hdE, if_neg h3, hc]
  rw [if_neg (by simpa using hne)]
 have hnone : ∀ c, E.κ c = none → c ≠ b3 → (hdE E id b0 (i * e.lv + j) b3).κ c = none := by
  intro c hc h3
  simp only [hdE, if_neg h3, hc]
  simp
 have hK : KpH μ μ H (H.set id (some (.arr cur e (xs.set i x') .dp))) := by
  intro q c hc
  by_cases hq : q = id
  ·subst hq
   rw [hH] at hc
   simp only [Option.some.injEq] at hc
   subst hc
   exact ⟨_, List.getElem?_set_self hidlt, .inr ⟨rfl, rfl, by simp, rfl⟩⟩
  ·exact ⟨c, by rw [List.getElem?_set_ne (Ne.symm hq)]; exact hc, Kp.refl _ _⟩
 -- positions that stay
 let A : Pos → Prop := fun p => ∃ b k, p = .inside b k ∧ ¬ (b = b0 ∧ k = i * e.lv + j)
 have hκA : ∀ b q, A q → E.κ b = some (.id id, q) → (hdE E id b0 (i * e.lv + j) b3).κ b = some (.id id, q) ∧ w'.heap[b]? = w.heap[b]? ∧ ∀ k, A (.inside b k) := by
  rintro b q ⟨b', k', rfl, hne⟩ hb
  have hb0' : b ≠ b0 := by
   intro e
   subst e
   rw [hκ0] at hb
   simp at hb
  obtain ⟨h1, h2⟩ := hkeep b _ _ hb (by
   intro e
   simp only [Prod.mk.injEq, true_and, Pos.inside.injEq] at e
   exact hne e)
  exact ⟨h1, hoth b (hM.ltκ b (by simp [hb])) hb0' h2, fun k => ⟨b, k, rfl, fun h => hb0' h.1⟩⟩
 have hcw : ∀ q, cellAt w' b0 q = arr4[q]? := fun q => by simp only [cellAt, World.cell?, hb0, Option.isSome_none, Bool.false_eq_true, if_false]
 have hcw0 : ∀ q, cellAt w b0 q = arr0[q]? := fun q => by simp only [cellAt, World.cell?, hheap, Option.isSome_none, Bool.false_eq_true, if_false]
 have hsame : ∀ q, q ≠ i * e.lv + j → ∀ v, cellAt w b0 q = some v → cellAt w' b0 q = some v := fun q hq v hv => by rw [hcw, hcell q hq, ← hcw0]; exact hv
 have hMR : MR w' (hdE E id b0 (i * e.lv + j) b3) μ (H.set id (some (.arr cur e (xs.set i x') .dp))) 0 := by
  refine MR.step hM (fun c hc => hnone c (hM.apart c hc) (hSne c hc).2) (fun c hc => Nat.lt_of_lt_of_le (hM.ltS c hc) hle) (fun c hc => ?_) (fun c r q hc => ?_) hS hK (fun q blk hq => ?_)
  ·by_cases h3 : c = b3
   ·rw [h3]; exact hb3l
   ·cases hE : E.κ c with
    | none => exact absurd (hnone c hE h3) hc
    | some x => exact Nat.lt_of_lt_of_le (hM.ltκ c (by simp [hE])) hle
  ·simp only [hdE] at hc
   split at hc
   ·simp only [Option.some.injEq, Prod.mk.injEq] at hc
    exact .inl ⟨id, hc.1.symm, by simpa using hidlt⟩
   ·split at hc
    ·simp at hc
    ·simpa using hM.roots c r q hc
  ·by_cases hid : q = id
   ·subst hid
    rw [List.getElem?_set_self hidlt] at hq
    simp only [Option.some.injEq] at hq
    subst hq
    refine .inr ⟨by simp, ?_⟩
    have hk0 : (hdE E q b0 (i * e.lv + j) b3).κ b0 = some (.id q, .top) := (hkeep b0 _ _ hκ0 (by simp)).1
    refine ⟨μ q, by simp only [at0, if_true], .inr ⟨by simp, .inr ⟨b0, c0, arr4, ty0, by rw [List.length_set]; exact hμ, by rw [List.length_set]; exact hcap, hb0, by rw [hsz4]; exact hsz, hk0, fun r hr0 => ?_⟩⟩⟩
    have hr : r < xs.length := by simpa using hr0
    by_cases hri : r = i
    ·subst hri
     have hx : (xs.set r x')[r]'hr0 = x' := by simp
     rw [hx]
     refine leaf_set A hS hκA e xs[r] j t' ys ys' x' _ _ _ hget hset (fun k hk hkj => ⟨b0, _, rfl, fun h => hkj (by omega)⟩) (fun k v hk hkj hv => hsame _ (by omega) v hv) (hrows r hr) ?_
     obtain ⟨v, hv, hrep⟩ := hnew
     simp only [at0, if_true, Option.some.injEq] at hv
     subst hv
     refine ⟨y3, ?_, ?_⟩
     ·show cellAt w' b0 (r * e.lv + (0 + j)) = some y3
      rw [Nat.zero_add, hcw]
      exact hcellk
     ·simp only [Nat.zero_add]
      exact hrep
    ·have hx : (xs.set i x')[r]'(by simpa using hr) = xs[r] := by simp [List.getElem_set, Ne.symm hri]
     rw [hx]
     have hne : ∀ k, k < e.lv → r * e.lv + k ≠ i * e.lv + j := by
      intro k hk h
      have h1 : (r * e.lv + k) / e.lv = r := by rw [Nat.mul_comm, Nat.mul_add_div (lv_pos e), Nat.div_eq_of_lt hk, Nat.add_zero]
      have h2 : (i * e.lv + j) / e.lv = i := by rw [Nat.mul_comm, Nat.mul_add_div (lv_pos e), Nat.div_eq_of_lt hj, Nat.add_zero]
      rw [h, h2] at h1
      exact hri h1.symm
     exact Rep.stay A hS hκA (fun k hk => ⟨b0, _, rfl, fun h => hne k hk h.2⟩) (fun k v hk hv => hsame _ (hne k hk) v hv) (hrows r hr)
   ·rw [List.getElem?_set_ne (Ne.symm hid)] at hq
    refine .inl ⟨hq, rfl, fun b p hb => ?_⟩
    obtain ⟨h1, h2⟩ := hkeep b _ _ hb (by simp [hid])
    refine ⟨h1, hoth b (hM.ltκ b (by simp [hb])) (fun e => ?_) h2⟩
    subst e
    rw [hκ0] at hb
    simp only [Option.some.injEq, Prod.mk.injEq, Root.id.injEq] at hb
    exact hid hb.1.symm
 refine ⟨hMR, ⟨hos, htp, hout, hle, fun b hb hn => ?_, fun b hb => hb, fun b hb => .inl hb, fun b hb => ?_⟩, hS, hK⟩
 ·refine hoth b hb (fun e => ?_) (hb3n b hb (by rw [hn]; simp))
  subst e
  rw [hκ0] at hn
  simp at hn
 ·by_cases h3 : b = b3
  ·subst h3
   rcases hb3 with h | h
   ·exact .inl (by simp [h])
   ·exact .inr h
  ·cases hE : E.κ b with
   | none => exact absurd (hnone b hE h3) hb
   | some x => exact .inl (by simp)
theorem app_one {k : IntKind} {ti : TI} {t : TypeId} (hT : TabOk P T) (he : elemTy T t = some (ti, .int k)) (rt : TypeId) {w : World} {r : Root} {ys : List Int} {p : Nat → Pos} {g : Nat → Option Value} {y : Value} (hr : Rep w E r (.sl (.int k)) ys .dp p g) (hy : g 0 = some y) {c : Int} {ga : Nat}
  (hga : ga < w.heap.size) (hgc : w.heap[ga]? = some (.cells #[.int k c] ti.elem (0, 0))) (hl : ys.length + 1 ≤ lim (.int k)) :
  ∃ b3 cap3 arr3 ty3 w3, (Builtin.append_ #[t, t] rt #[y, .slice (some ⟨ga, 0, none⟩) 1 1]).run P w = .ok (.slice (some ⟨b3, 0, none⟩) (ys.length + 1) cap3) w3 ∧ ys.length + 1 ≤ cap3 ∧
   w3.heap[b3]? = some (.cells arr3 ty3 (0, 0)) ∧ arr3.size = cap3 ∧ (∀ q (h : q < (ys ++ [c]).length), arr3[q]? = some (.int k (ys ++ [c])[q])) ∧ w3.os = w.os ∧ w3.tape = w.tape ∧ w3.output = w.output ∧ w.heap.size ≤ w3.heap.size ∧ b3 < w3.heap.size ∧
   (∀ c, c < w.heap.size → c ≠ b3 → w3.heap[c]? = w.heap[c]?) ∧ (E.κ b3 = some (r, p 0) ∨ w.heap.size ≤ b3) := by
 obtain ⟨f1, ej, f2, f3⟩ := elemTy_under hT he
 obtain ⟨info, g1, g2, g3, _, g5, g6⟩ := (hT _ _ f2).info
 rw [f3] at g2 g3 g6
 obtain ⟨z, hz, hz'⟩ := Option.map_eq_some_iff.1 g3
 have hlv : (Ty.int k).lv = 1 := rfl
 have hzs : z.cells.size = 1 := by rw [← Array.length_toList, hz', zeros_length]; rfl
 have hlim0 : lim (.int k) ≤ 140737488355328 := Nat.div_le_self _ _
 have hfit : (ys.length + 1) * info.bytes ≤ 140737488355328 := by
  have a2 : lim (.int k) * (24 * (Ty.int k).lv) ≤ 140737488355328 := Nat.div_mul_le_self _ _
  have a3 : (ys.length + 1) * info.bytes ≤ lim (.int k) * (24 * (Ty.int k).lv) := Nat.mul_le_mul hl (by omega)
  omega
 obtain ⟨v, hv, hr⟩ := hr
 rw [hy] at hv
 simp only [Option.some.injEq] at hv
 subst hv
 obtain ⟨base, sCap, ty, b1, b2, b4⟩ : ∃ (base : Option Addr) (sCap : Nat) (ty : TypeId), y = .slice base ys.length sCap ∧ ys.length ≤ sCap ∧
   ((sCap = 0 ∧ ys.map (Value.int k) = []) ∨ ∃ g cur, base = some ⟨g, 0, none⟩ ∧ w.heap[g]? = some (.cells cur ty (0, 0)) ∧ cur.size = sCap ∧ (∀ (j : Nat) v, (ys.map (Value.int k))[j]? = some v → cur[j]? = some v) ∧ E.κ g = some (r, p 0)) := by
  rcases hr with ⟨h, _⟩ | ⟨_, ⟨rfl, a, rfl⟩ | ⟨b, c', arr, ty, rfl, h2, h3, h4, h5, h6⟩⟩
  ·cases h
  ·exact ⟨a, 0, 0, rfl, by simp, .inl ⟨rfl, rfl⟩⟩
  ·rw [hlv, Nat.mul_one] at h4
   refine ⟨some ⟨b, 0, none⟩, c', ty, rfl, h2, .inr ⟨b, arr, rfl, h3, h4, fun j v hv => ?_, h5⟩⟩
   rw [List.getElem?_map, Option.map_eq_some_iff] at hv
   obtain ⟨x, hx, rfl⟩ := hv
   obtain ⟨hj, rfl⟩ := List.getElem?_eq_some_iff.1 hx
   have := h6 j hj
   simp only [Rep, hlv, Nat.mul_one, Nat.add_zero, cellAt, World.cell?, h3, Option.isSome_none, Bool.false_eq_true, if_false] at this
   exact this
 subst b1
 have hnews : ∀ (j : Nat) v, ([Value.int k c] : List Value)[j]? = some v → w.cell? ((⟨ga, 0, none⟩ : Addr).add j) = some v := by
  intro j v hv
  cases j with
  | zero =>
   simp only [List.getElem?_cons_zero, Option.some.injEq] at hv
   subst hv
   rw [add_at]
   simp [World.cell?, hgc]
  | succ j => simp at hv
 obtain ⟨y', w', hrun, hcase⟩ := append_run (P := P) (w := w) (ty := ty) (ti := ti) f1 g1 hz (lv := 1) g2 hzs (by omega) rt (base := base) (sLen := ys.length) (sCap := sCap) (olds := ys.map (Value.int k)) (by simp) b2
  (b4.imp id (fun ⟨g, cur, h1, h2, h3, h4, _⟩ => ⟨g, cur, h1, h2, by rw [h3, Nat.mul_one], fun j v hv => by rw [add_at, Nat.zero_add]; simp only [World.cell?, h2, Option.isSome_none, Bool.false_eq_true, if_false]; exact h4 j v hv⟩)) (ad := some ⟨ga, 0, none⟩) (m := 1) (c := 1) (news := [.int k c]) (by simp)
  (fun _ => ⟨_, rfl, hnews⟩) (by intro v hv; simp at hv; subst hv; rfl) (by simpa using hfit) (by omega)
 have hval : ∀ (arr : Array Value) (tail : List Value), arr.toList = ys.map (Value.int k) ++ [.int k c] ++ tail → ∀ q (h : q < (ys ++ [c]).length), arr[q]? = some (.int k (ys ++ [c])[q]) := by
  intro arr tail ha q hq
  rw [← Array.getElem?_toList, ha, List.getElem?_append_left (by simpa using hq)]
  rw [show ys.map (Value.int k) ++ [Value.int k c] = (ys ++ [c]).map (Value.int k) by simp, List.getElem?_map, List.getElem?_eq_getElem hq]
  rfl
 rcases hcase with ⟨h0, _, _⟩ | ⟨_, g, cur, hbg, hcur, hcs, hroom, rfl, rfl⟩ | ⟨_, cap', cells, hcap, rfl, rfl, hcs, tail, htail⟩
 ·omega
 ·rcases b4 with ⟨z1, z2⟩ | ⟨g', cur', p1, p2, p3, p4, p5⟩
  ·omega
  ·rw [hbg] at p1
   simp only [Option.some.injEq, Addr.mk.injEq, and_true] at p1
   subst p1
   rw [hcur] at p2
   simp only [Option.some.injEq, Obj.cells.injEq, and_true] at p2
   subst p2
   subst hbg
   have hgs : g < w.heap.size := (Array.getElem?_eq_some_iff.1 hcur).1
   have hol : (cur.toList.take (ys.length * 1)) = ys.map (Value.int k) := by
    refine List.ext_getElem? fun q => ?_
    rw [List.getElem?_take, Array.getElem?_toList]
    by_cases hq : q < ys.length
    ·rw [if_pos (by omega)]
     obtain ⟨v, hv⟩ : ∃ v, (ys.map (Value.int k))[q]? = some v := ⟨_, List.getElem?_eq_getElem (by simpa using hq)⟩
     rw [hv, p4 q v hv]
    ·rw [if_neg (by omega), List.getElem?_eq_none (by simpa using hq)]
   rw [hol] at hrun
   refine ⟨g, sCap, _, ty, _, hrun, hroom, setRow_this w g cur _ ty _ hcur, ?_, hval _ (cur.toList.drop (ys.length * 1 + 1)) (by simp), rfl, rfl, rfl, by simp, by simpa using hgs, fun c hc hne => setRow_other w g c _ hne, .inl p5⟩
   simp only [List.size_toArray, List.length_append, List.length_drop, Array.length_toList, List.length_map, List.length_singleton, Nat.mul_one]
   omega
 ·have hnew : (w.drew.alloc (.cells cells ti.elem)).heap[w.heap.size]? = some (.cells cells ti.elem (0, 0)) := by rw [drew_alloc_heap]; simp
  have hnsz : (w.drew.alloc (.cells cells ti.elem)).heap.size = w.heap.size + 1 := by rw [drew_alloc_heap]; simp
  exact ⟨w.heap.size, cap', cells, ti.elem, _, hrun, hcap, hnew, by rw [hcs, Nat.mul_one], hval _ _ htail, rfl, rfl, rfl, by rw [hnsz]; omega, by rw [hnsz]; omega, fun c hc _ => alloc_old w.drew _ hc, .inr (Nat.le_refl _)⟩
theorem setRow_len (w : World) (g : Nat) (arr : Array Value) : (w.setRow g arr).heap.size = w.heap.size := by simp [World.setRow]
theorem At.any {a : Act} (hA : At n w0 E0 s a w E μ) {d : Nat} {y : Value} (hd : d < n) (hy : y.oneCell' = true) : At n w0 E0 ⟨(d, .lf .any) :: s.sl, s.H⟩ (a.put (some d) y) w E μ :=
 hA.put hd hA.mr (Ext.refl w E) (fun b hb => ⟨hb, rfl⟩) (KpH.refl μ s.H) hy
theorem eval_put {a : Act} {d d' : Nat} {y : Value} (h : d < a.tmps.size) : (a.put (some d) y).eval (.tmp d') = if d' = d then y else a.eval (.tmp d') := by
 by_cases hd : d' = d
 ·subst hd
  simp [Act.eval, Act.put, Array.getD_eq_getD_getElem?, Array.getElem?_setIfInBounds, h]
 ·simp [Act.eval, Act.put, Array.getD_eq_getD_getElem?, Array.getElem?_setIfInBounds, Ne.symm hd, hd]
theorem VO.colApp (hT : TabOk P T) {o1 o2 o3 o4 o5 o6 : Oper} {t ts tf : TypeId} {ti : TI} {ad x xi : Operand} {cl : Call} {parts : Array (Nat × Operand)} {d1 d2 d3 d4 d5 id cur i j fld : Nat} {z c : Int} {kk k : IntKind} {e : Ty} {xs : List e.den} {ys : List Int} {x' : e.den}
  (h1 : o1.guard = none ∧ o1.dst = some d1 ∧ o1.op = .load t ad) (h2 : o2.guard = none ∧ o2.dst = some d2 ∧ o2.op = .buildSlice t 1 parts) (hparts : parts = #[(0, .const (.int k c))])
  (h3 : o3.guard = none ∧ o3.dst = some d3 ∧ o3.op = .call cl) (hcl : cl.callee = .builtin .append ∧ cl.args = #[.tmp d1, .tmp d2] ∧ cl.argTypes = #[t, t])
  (h4 : o4.guard = none ∧ o4.dst = some d4 ∧ o4.op = .indexAddr ts x xi) (h5 : o5.guard = none ∧ o5.dst = some d5 ∧ o5.op = .fieldAddr tf (.tmp d4) fld) (h6 : o6.guard = none ∧ o6.dst = none ∧ o6.op = .store t (.tmp d5) (.tmp d3))
  (hd : (Nat.blt d1 n && Nat.blt d2 n && Nat.blt d3 n && Nat.blt d4 n && Nat.blt d5 n && !Nat.beq d1 d2 && !Nat.beq d3 d4 && !Nat.beq d3 d5) = true)
  (hel : elemTy T t = some (ti, .int k)) (hes : elemIs T ts e = true) (hof : offOf T tf fld = some j)
  (had : opnd s.sl ad = some (.lf (.ptr id cur i j))) (hx : opnd ((d3, .lf .any) :: (d2, .lf .any) :: (d1, .lf .any) :: s.sl) x = some (.lf (.hd id cur none))) (hxi : opnd ((d3, .lf .any) :: (d2, .lf .any) :: (d1, .lf .any) :: s.sl) xi = some (.lf (.v (.int kk) z)))
  (hH : s.H[id]? = some (some (.arr cur e xs .dp))) (hget : (leafs e (xs.getD i e.dflt) .fz)[j]? = some (.v (.sl (.int k)) ys)) (hset : setLf e (xs.getD i e.dflt) j (.v (.sl (.int k)) (ys ++ [c])) .fz = some x')
  (hz : 0 ≤ z ∧ z.toNat = i) (hi : i < xs.length ∧ ys.length + 1 ≤ lim (.int k))
  (kont : VO P n w0 E0 ops Q rest ⟨(d5, .lf .any) :: (d4, .lf .any) :: (d3, .lf .any) :: (d2, .lf .any) :: (d1, .lf .any) :: s.sl, s.H.set id (some (.arr cur e (xs.set i x') .dp))⟩) : VO P n w0 E0 ops Q (o1 :: o2 :: o3 :: o4 :: o5 :: o6 :: rest) s := by
 simp only [Bool.and_eq_true, Bool.not_eq_true'] at hd
 obtain ⟨⟨⟨⟨⟨⟨⟨n1, n2⟩, n3⟩, n4⟩, n5⟩, e12⟩, e34⟩, e35⟩ := hd
 have n1 : d1 < n := by simpa [Nat.blt_eq] using n1
 have n2 : d2 < n := by simpa [Nat.blt_eq] using n2
 have n3 : d3 < n := by simpa [Nat.blt_eq] using n3
 have n4 : d4 < n := by simpa [Nat.blt_eq] using n4
 have n5 : d5 < n := by simpa [Nat.blt_eq] using n5
 have e12 : d1 ≠ d2 := fun e => by subst e; simp at e12
 have e34 : d3 ≠ d4 := fun e => by subst e; simp at e34
 have e35 : d3 ≠ d5 := fun e => by subst e; simp at e35
 obtain ⟨ti', hti, hty⟩ : ∃ ti', T t = some ti' ∧ ti'.ty = .sl (.int k) := by
  unfold elemTy at hel
  split at hel
  ·rename_i i1 h1
   split at hel
   ·rename_i e' he'
    simp only [Option.some.injEq, Prod.mk.injEq] at hel
    exact ⟨i1, h1, by rw [he', hel.2]⟩
   ·simp at hel
  ·simp at hel
 intro a w hs
 obtain ⟨E, μ, hA⟩ := hs.at
 have hp := (hA.opnd had).2
 rw [hH] at hp
 obtain ⟨b0, nn, cc, m1, m2⟩ := hp.2 rfl
 obtain ⟨_, hrow⟩ := hA.mr.arr hH
 rcases hrow with ⟨rfl, _⟩ | ⟨b0', c0, arr0, ty0, f1, f2, f3, f4, f5, f6⟩
 ·simp at hi
 rw [m1] at f1
 simp only [Value.slice.injEq, Option.some.injEq, Addr.mk.injEq, and_true] at f1
 obtain ⟨rfl, rfl, rfl⟩ := f1
 have hxx : xs.getD i e.dflt = xs[i]'hi.1 := by simp [List.getD, hi.1]
 rw [hxx] at hget hset
 have hj : j < e.lv := by
  have := (List.getElem?_eq_some_iff.1 hget).1
  rwa [leafs_length] at this
 have hsub := leaf_sl e (xs[i]'hi.1) j (.int k) ys _ _ hget (f6 i hi.1)
 obtain ⟨y, hy⟩ : ∃ y, cellAt w b0 (i * e.lv + j) = some y := by
  obtain ⟨v, hv, _⟩ := hsub
  exact ⟨v, by simpa using hv⟩
 have hone : y.oneCell' = true := rep_sl_one hsub (v := y) (by simpa using hy)
 have hld : (loadVar t ⟨b0, i * e.lv + j, none⟩).run P w = .ok y w := by
  have := hT.loadVar hti w b0 (i * e.lv + j) [y] (by rw [hty]; rfl) (fun q v hq => by
   cases q with
   | zero => simp only [List.getElem?_cons_zero, Option.some.injEq] at hq; subst hq; exact hy
   | succ q => simp at hq)
  rw [hty] at this
  simpa [Ty.isPair] using this
 -- 1: the slice
 refine wpList_value (y := y) (w' := w) h1.1 (by simp only [execOp, h1.2.2, m2, Instr.loadAt, Instr.sureAddr, Sem.run_bind, Sem.run_pure, Result.andThen_ok, hld]) ?_
 rw [h1.2.1]
 have hA1 := hA.any (y := y) n1 hone
 have z1 : a.tmps.size = n := hA.size.1
 have z2 : (a.put (some d1) y).tmps.size = n := hA1.size.1
 -- 2: the number that comes
 obtain ⟨u1, ej, u2, u3⟩ := elemTy_under hT hel
 obtain ⟨info, g1, g2, g3, _, _, _⟩ := (hT _ _ u2).info
 rw [u3] at g2 g3
 obtain ⟨zv, hzv, hz'⟩ := Option.map_eq_some_iff.1 g3
 have g2' : info.size = 1 := g2
 have hrun2 : (execOp (a.put (some d1) y).eval o2).run P w = .ok (.value (.slice (some ⟨w.heap.size, 0, none⟩) 1 1)) (w.alloc (.cells #[.int k c] ti.elem)) := by
  have := run_buildSlice w t ti.elem 1 (parts.map fun (i, x) => (i, (a.put (some d1) y).eval x)) #[.int k c] info zv u1 g1 hzv (by rw [g2']; omega) (by rw [g2']; omega) (by
   have hp' : (parts.map fun (i, x) => (i, (a.put (some d1) y).eval x)).toList = ([Value.int k c].zipIdx 0).map fun x => (x.2, x.1) := by subst hparts; simp [Act.eval]
   rw [hp', g2']
   rw [Great.fill_whole (s := 1) (by omega) [Value.int k c] _ (by intro v hv; simp at hv; subst hv; rfl) (by simp)]
   simp [Value.cells])
  simp only [execOp, h2.2.2, Sem.run_bind, this, Result.andThen_ok, Sem.run_pure]
 refine wpList_value h2.1 hrun2 ?_
 rw [h2.2.1]
 have hA2 := hA1.any (y := .slice (some ⟨w.heap.size, 0, none⟩) 1 1) n2 rfl
 have z3 := hA2.size.1
 have v1 : ((a.put (some d1) y).put (some d2) (.slice (some ⟨w.heap.size, 0, none⟩) 1 1)).eval (.tmp d1) = y := by
  rw [eval_put (by rw [z2]; exact n2), if_neg e12, eval_put (by rw [z1]; exact n1), if_pos rfl]
 have v2 : ((a.put (some d1) y).put (some d2) (.slice (some ⟨w.heap.size, 0, none⟩) 1 1)).eval (.tmp d2) = .slice (some ⟨w.heap.size, 0, none⟩) 1 1 := by
  rw [eval_put (by rw [z2]; exact n2), if_pos rfl]
 generalize ((a.put (some d1) y).put (some d2) (.slice (some ⟨w.heap.size, 0, none⟩) 1 1)) = a2 at hA2 v1 v2 z3 ⊢
 have hold1 : ∀ c', c' < w.heap.size → (w.alloc (.cells #[.int k c] ti.elem)).heap[c']? = w.heap[c']? := fun c' hc' => alloc_old w _ hc'
 have hnew1 : (w.alloc (.cells #[.int k c] ti.elem)).heap[w.heap.size]? = some (.cells #[.int k c] ti.elem (0, 0)) := by rw [alloc_heap]; simp
 have hsz1 : (w.alloc (.cells #[.int k c] ti.elem)).heap.size = w.heap.size + 1 := by rw [alloc_heap]; simp
 -- 3: the append
 have hsub1 : Rep (w.alloc (.cells #[.int k c] ti.elem)) E (.id id) (.sl (.int k)) ys .dp (fun q => .inside b0 (i * e.lv + (q + j))) (fun q => cellAt w b0 (i * e.lv + (q + j))) :=
  Rep.move (E := E) (E' := E) (fun _ => True) (fun q => q) (fun b hb => ⟨hb, hold1 b (hA.mr.ltS b hb)⟩) (fun b q _ hq => ⟨hq, hold1 b (hA.mr.ltκ b (by simp [hq])), fun _ => ⟨trivial, rfl⟩⟩) (.sl (.int k)) ys .dp _ _ _ _ (fun _ => ⟨fun _ => trivial, fun _ => rfl⟩) (fun _ _ _ h => h) hsub
 obtain ⟨b3, cap3, arr3, ty3, w3, r1, r2, r3, r4, r5, r6, r7, r8, r9, r10, r11, r12⟩ := app_one hT hel o3.type hsub1 (y := y) (by simpa using hy) (c := c) (ga := w.heap.size) (by rw [hsz1]; omega) hnew1 hi.2
 refine wpList_value (y := .slice (some ⟨b3, 0, none⟩) (ys.length + 1) cap3) (w' := w3) h3.1 (by
  simp only [execOp, h3.2.2, resolve, hcl.1, hcl.2.1, hcl.2.2, Sem.run_bind, Sem.run_pure, Result.andThen_ok, invoke, builtin]
  simp only [List.map_toArray, List.map_cons, List.map_nil, v1, v2, r1, Result.andThen_ok]) ?_
 rw [h3.2.1]
 have hA3 := hA2.any (y := .slice (some ⟨b3, 0, none⟩) (ys.length + 1) cap3) n3 rfl
 have z4 := hA3.size.1
 have v3 : (a2.put (some d3) (.slice (some ⟨b3, 0, none⟩) (ys.length + 1) cap3)).eval (.tmp d3) = .slice (some ⟨b3, 0, none⟩) (ys.length + 1) cap3 := by rw [eval_put (by rw [z3]; exact n3), if_pos rfl]
 generalize (a2.put (some d3) (.slice (some ⟨b3, 0, none⟩) (ys.length + 1) cap3)) = a3 at hA3 v3 z4 ⊢
 -- 4, 5: the place
 have ex : a3.eval x = .slice (some ⟨b0, 0, none⟩) xs.length cc := by
  have := (hA3.opnd hx).2
  simp only at this
  rw [hH] at this
  exact (this.2 rfl).trans m1
 have exi : a3.eval xi = .int kk z := by
  have h := hA3.opnd hxi
  simpa [AR, LR, Rep, at0] using h
 have hzl : z < (xs.length : Int) := by
  have := hi.1
  omega
 have q4 := indexAt_any hT hes (b := b0) (o := 0) (len := xs.length) (cap := cc) (kk := kk) hz.1 hzl w3
 rw [hz.2, Nat.zero_add] at q4
 refine wpList_value (y := .pointer (some ⟨b0, i * e.lv, none⟩)) (w' := w3) h4.1 (by simp only [execOp, h4.2.2, ex, exi, Sem.run_bind, Sem.run_pure, q4, Result.andThen_ok]) ?_
 rw [h4.2.1]
 have hA4 := hA3.any (y := .pointer (some ⟨b0, i * e.lv, none⟩)) n4 rfl
 have z5 := hA4.size.1
 have v4 : (a3.put (some d4) (.pointer (some ⟨b0, i * e.lv, none⟩))).eval (.tmp d4) = .pointer (some ⟨b0, i * e.lv, none⟩) := by rw [eval_put (by rw [z4]; exact n4), if_pos rfl]
 have v34 : (a3.put (some d4) (.pointer (some ⟨b0, i * e.lv, none⟩))).eval (.tmp d3) = .slice (some ⟨b3, 0, none⟩) (ys.length + 1) cap3 := by rw [eval_put (by rw [z4]; exact n4), if_neg e34, v3]
 generalize (a3.put (some d4) (.pointer (some ⟨b0, i * e.lv, none⟩))) = a4 at hA4 v4 v34 z5 ⊢
 refine wpList_value (y := .pointer (some ⟨b0, i * e.lv + j, none⟩)) (w' := w3) h5.1 (by simp only [execOp, h5.2.2, v4, Sem.run_bind, Sem.run_pure, fieldAt_any hT hof, Result.andThen_ok]) ?_
 rw [h5.2.1]
 have hA5 := hA4.any (y := .pointer (some ⟨b0, i * e.lv + j, none⟩)) n5 rfl
 have v5 : (a4.put (some d5) (.pointer (some ⟨b0, i * e.lv + j, none⟩))).eval (.tmp d5) = .pointer (some ⟨b0, i * e.lv + j, none⟩) := by rw [eval_put (by rw [z5]; exact n5), if_pos rfl]
 have v35 : (a4.put (some d5) (.pointer (some ⟨b0, i * e.lv + j, none⟩))).eval (.tmp d3) = .slice (some ⟨b3, 0, none⟩) (ys.length + 1) cap3 := by rw [eval_put (by rw [z5]; exact n5), if_neg e35, v34]
 generalize (a4.put (some d5) (.pointer (some ⟨b0, i * e.lv + j, none⟩))) = a5 at hA5 v5 v35 ⊢
 -- 6: the header
 have hb0w : b0 < w.heap.size := (Array.getElem?_eq_some_iff.1 f3).1
 have hb30 : b3 ≠ b0 := by
  intro e1
  subst e1
  rcases r12 with h | h
  ·rw [f5] at h
   simp at h
  ·omega
 have hb0w3 : w3.heap[b0]? = some (.cells arr0 ty0 (0, 0)) := by
  rw [r11 b0 (by omega) (Ne.symm hb30), hold1 b0 hb0w]
  exact f3
 have hkl : i * e.lv + j < arr0.size := by
  have hmul : (i + 1) * e.lv ≤ cc * e.lv := Nat.mul_le_mul_right _ (by have := hi.1; omega)
  rw [Nat.add_mul, Nat.one_mul] at hmul
  omega
 have hst := storeVar_run hT hti (b := b0) (o := i * e.lv + j) hb0w3 (y := .slice (some ⟨b3, 0, none⟩) (ys.length + 1) cap3) (by rw [hty]; rfl) (by show i * e.lv + j + 1 ≤ arr0.size; omega) (by intro v hv; simp [Value.cells] at hv; subst hv; rfl)
 generalize hnew : (arr0.toList.take (i * e.lv + j) ++ (Value.slice (some ⟨b3, 0, none⟩) (ys.length + 1) cap3).cells.toList ++ arr0.toList.drop (i * e.lv + j + (Value.slice (some ⟨b3, 0, none⟩) (ys.length + 1) cap3).cells.size)).toArray = arr4 at hst
 have hnew' : arr4 = (arr0.toList.take (i * e.lv + j) ++ [Value.slice (some ⟨b3, 0, none⟩) (ys.length + 1) cap3] ++ arr0.toList.drop (i * e.lv + j + 1)).toArray := hnew.symm
 refine wpList_skip (w' := w3.setRow b0 arr4) h6.1 (by
  simp only [execOp, h6.2.2, Instr.storeAt, v5, v35, Instr.sureAddr, Sem.run_bind, Sem.run_pure, Result.andThen_ok, hst]) ?_
 rw [h6.2.1]
 have hthis := setRow_this w3 b0 arr0 arr4 ty0 _ hb0w3
 have hoth : ∀ c', c' ≠ b0 → (w3.setRow b0 arr4).heap[c']? = w3.heap[c']? := fun c' hc' => setRow_other w3 b0 c' arr4 hc'
 have hcells : ∀ q, arr4[q]? = if q = i * e.lv + j then some (.slice (some ⟨b3, 0, none⟩) (ys.length + 1) cap3) else arr0[q]? := by
  intro q
  rw [hnew', List.getElem?_toArray, List.append_assoc, List.getElem?_append, List.length_take, Array.length_toList, Nat.min_eq_left (by omega)]
  by_cases q1 : q < i * e.lv + j
  ·rw [if_pos q1, if_neg (by omega), List.getElem?_take, if_pos q1, Array.getElem?_toList]
  ·rw [if_neg q1]
   by_cases q2 : q = i * e.lv + j
   ·rw [if_pos q2, q2, Nat.sub_self]; rfl
   ·rw [if_neg q2, List.getElem?_append_right (by simp; omega), List.getElem?_drop, Array.getElem?_toList, List.length_singleton]
    congr 1
    omega
 have hsz4 : arr4.size = arr0.size := by
  rw [hnew']
  simp only [List.size_toArray, List.length_append, List.length_take, List.length_drop, Array.length_toList, List.length_singleton]
  omega
 have hrep : Rep (w3.setRow b0 arr4) (hdE E id b0 (i * e.lv + j) b3) (.id id) (.sl (.int k)) (ys ++ [c]) .dp (fun _ => .inside b0 (i * e.lv + j)) (at0 (.slice (some ⟨b3, 0, none⟩) (ys.length + 1) cap3)) := by
  have hb : (w3.setRow b0 arr4).heap[b3]? = some (.cells arr3 ty3 (0, 0)) := by rw [hoth b3 hb30]; exact r3
  refine ⟨.slice (some ⟨b3, 0, none⟩) (ys.length + 1) cap3, by simp only [at0, if_true], .inr ⟨by simp, .inr ⟨b3, cap3, arr3, ty3, by simp, by simpa using r2, hb, by rw [r4]; exact (Nat.mul_one _).symm, by simp only [hdE, if_true], fun q hq => ?_⟩⟩⟩
  show cellAt (w3.setRow b0 arr4) b3 (q * 1 + 0) = some (.int k (ys ++ [c])[q])
  rw [Nat.mul_one, Nat.add_zero]
  simp only [cellAt, World.cell?, hb, Option.isSome_none, Bool.false_eq_true, if_false]
  exact r5 q hq
 obtain ⟨p1, p2, p3, p4⟩ := hdr_mr hA.mr hH hi.1 m1 f2 f3 f4 f5 f6 hj hget hset (w' := w3.setRow b0 arr4) (b3 := b3) (arr4 := arr4) (y3 := .slice (some ⟨b3, 0, none⟩) (ys.length + 1) cap3)
  (by show w3.os = _; rw [r6]; rfl) (by show w3.tape = _; rw [r7]; rfl) (by show w3.output = _; rw [r8]; rfl) (by rw [setRow_len]; omega) hb30 (r12.imp (fun h => by simpa using h) (fun h => by omega)) (by rw [setRow_len]; exact r10) hthis hsz4 (fun q hq => by rw [hcells q, if_neg hq]) (by rw [hcells, if_pos rfl])
  (fun c' hc' h0 h3' => by rw [hoth c' h0, r11 c' (by omega) h3', hold1 c' hc']) hrep
 exact kont _ _ (hA5.unput p1 p2 p3 p4).rel
end
end Go.Proofs.YtnkgeljjjeeaaaaGreatDoor.Vc
namespace Go.Proofs.YtnkgeljjjeeaaaaGreatDoor.Vc
open Go Go.RowKit
set_option linter.unusedVariables false
set_option linter.unusedSimpArgs false
def HB3 (P : Program) (f : FuncId) (ps : List AV) (l : List Lf) (t : TypeId) (r1 r2 : Lf) : Prop :=
 ∀ (w : World) (E : Env) (args : Array Value), (∀ b, E.κ b = none) → (∀ b, E.S b → b < w.heap.size) → Tabs P w E → All2 (AR w E (fun _ => undef) []) ps args.toList →
  Calls P f args w fun e w' => ∃ b arr E' z1 z2, e = .returned (.tuple #[.pointer (some ⟨b, 0, none⟩), z1, z2]) ∧ Ext w E w' E' ∧ (∀ c, E'.S c → E'.κ c = none) ∧ (∀ c, E'.S c → c < w'.heap.size) ∧ (∀ c, E'.κ c ≠ none → c < w'.heap.size) ∧
   (∀ c r q, E'.κ c = some (r, q) → r = .res 0) ∧ E'.κ b = some (.res 0, .top) ∧ w'.heap[b]? = some (.cells arr t (0, 0)) ∧ All2 (LR w' E' (fun _ => undef) []) l arr.toList ∧ LR w' E' (fun _ => undef) [] r1 z1 ∧ LR w' E' (fun _ => undef) [] r2 z2
structure ConB3 (P : Program) (f : FuncId) (ps : List AV) (l : List Lf) (t : TypeId) (r1 r2 : Lf) : Prop where
 enters : ∀ (args : Array Value) (w : World), (callFunc f args).run P w = .ok (.enter f args) w
 vals : l.all Lf.isV = true
 val1 : r1.isV = true
 val2 : r2.isV = true
 calls : HB3 P f ps l t r1 r2
def retB3 (d d1 d2 : Nat) (l : List Lf) (t : TypeId) (r1 r2 : Lf) : Exit → St → Prop
 | .normal, s | .ret, s => ∃ id ver, opnd s.sl (.tmp d) = some (.lf (.ptr id ver 0 0)) ∧ s.H[id]? = some (some (.box l t)) ∧ opnd s.sl (.tmp d1) = some (.lf r1) ∧ opnd s.sl (.tmp d2) = some (.lf r2)
 | _, _ => False
section
variable {P : Program} {T : Tab} {n : Nat} {w0 : World} {E0 : Env0} {s : St} {ops : Array Oper} {Q : Exit → St → Prop} {rest : List Oper}
variable {w w' : World} {E E' : Env} {μ μ' : Nat → Value} {H H' : Heap}
theorem val_LR (hS : ∀ b, E.S b → E'.S b ∧ w'.heap[b]? = w.heap[b]?) {a : Lf} {y : Value} (hv : a.isV = true) (h : LR w E μ H a y) : LR w' E' μ' H' a y := by
 have := vals_LR (w := w) (w' := w') (E := E) (E' := E') (μ := μ) (μ' := μ') (H := H) (H' := H') hS (l := [a]) (ys := [y]) (by simp [hv]) (.cons h .nil)
 cases this with
 | cons h1 _ => exact h1
theorem HB3.intro {f : FuncId} {fn : Func} {c : Code} {ps : List AV} {l : List Lf} {t : TypeId} {r1 r2 : Lf} {d d1 d2 : Nat} (hf : P.funcs[f]? = some fn) (hb : fn.body = some c) (hn : ps.length ≤ fn.ntmps) (hg : fn.ntmps ≤ gb) (hr : fn.results = #[.tmp d, .tmp d1, .tmp d2]) (hv : l.all Lf.isV = true) (hv1 : r1.isV = true) (hv2 : r2.isV = true)
  (h : ∀ w0 E0, Tabs P w0 E0.toEnv → VW P fn.ntmps w0 E0 c (retB3 d d1 d2 l t r1 r2) ⟨argSl 0 ps, []⟩) : HB3 P f ps l t r1 r2 := by
 intro w E args hκ hlt ht hargs
 refine calls_of_wp hf hb ?_
 have hal := hargs.length
 simp only [Array.length_toList] at hal
 have hs : SRel fn.ntmps w ⟨E, fun _ => undef⟩ ⟨argSl 0 ps, []⟩ { tmps := args ++ Array.replicate (fn.ntmps - args.size) undef, defers := [] } w := by
  refine ⟨⟨by simp; omega, hg⟩, rfl, fun b _ => hκ b, E, fun _ => undef, ⟨fun b _ => hκ b, hlt, fun b hb => absurd (hκ b) hb, fun b r q hq => by rw [hκ] at hq; simp at hq, fun id blk hi => by simp at hi⟩, Ext.refl w E, fun k v hv => ?_⟩
  obtain ⟨_, h2⟩ := argSl_look ps 0 k v hv
  simp only [Nat.sub_zero] at h2
  obtain ⟨y, h3, h4⟩ := hargs.get k v h2
  refine ⟨y, ?_, h4⟩
  have hk := (List.getElem?_eq_some_iff.1 h3).1
  simp only [Array.length_toList] at hk
  rw [getS_lt (by omega), Array.getElem?_append_left hk, ← Array.getElem?_toList]
  exact h3
 refine wp_mono (h w ⟨E, fun _ => undef⟩ ht _ _ hs) ?_
 rintro e a' w' ⟨s', h1, h2⟩
 have fin : (∃ id ver, opnd s'.sl (.tmp d) = some (.lf (.ptr id ver 0 0)) ∧ s'.H[id]? = some (some (.box l t)) ∧ opnd s'.sl (.tmp d1) = some (.lf r1) ∧ opnd s'.sl (.tmp d2) = some (.lf r2)) → a'.defers = [] ∧ ∃ v, (results fn a'.tmps).run P w' = .ok v w' ∧ ∃ b arr E' z1 z2, Ending.returned v = .returned (.tuple #[.pointer (some ⟨b, 0, none⟩), z1, z2]) ∧ Ext w E w' E' ∧ (∀ c, E'.S c → E'.κ c = none) ∧ (∀ c, E'.S c → c < w'.heap.size) ∧ (∀ c, E'.κ c ≠ none → c < w'.heap.size) ∧
   (∀ c r q, E'.κ c = some (r, q) → r = .res 0) ∧ E'.κ b = some (.res 0, .top) ∧ w'.heap[b]? = some (.cells arr t (0, 0)) ∧ All2 (LR w' E' (fun _ => undef) []) l arr.toList ∧ LR w' E' (fun _ => undef) [] r1 z1 ∧ LR w' E' (fun _ => undef) [] r2 z2 := by
  rintro ⟨id, ver, hd, hH, hd1, hd2⟩
  obtain ⟨E1, μ, hA⟩ := h1.at
  refine ⟨hA.defers, ?_⟩
  obtain ⟨y, hy1, hy2⟩ := hA.tmp hd
  obtain ⟨z1, hz1, hz1'⟩ := hA.tmp hd1
  obtain ⟨z2, hz2, hz2'⟩ := hA.tmp hd2
  simp only [AR, LR, hH] at hy2
  obtain ⟨_, b, hb1, rfl⟩ := hy2
  obtain ⟨b', arr, f1, f2, f3, f4⟩ := hA.mr.blks id _ hH
  rw [hb1] at f1
  simp only [Value.pointer.injEq, Option.some.injEq, Addr.mk.injEq, and_true] at f1
  subst f1
  have hκ2 : ∀ b, (retE E1 [some id]).κ b ≠ none → E1.κ b ≠ none := by
   intro b hb e
   simp only [retE, e] at hb
   exact hb rfl
  refine ⟨.tuple #[.pointer (some ⟨b, 0, none⟩), z1, z2], ?_, b, arr, retE E1 [some id], z1, z2, rfl, ?_, ?_, ?_, fun c hc => hA.mr.ltκ c (hκ2 c hc), ?_, ?_, f3, vals_LR (E' := retE E1 [some id]) (fun b hb => ⟨Or.inl hb, rfl⟩) hv f4, val_LR (E' := retE E1 [some id]) (fun b hb => ⟨Or.inl hb, rfl⟩) hv1 hz1', val_LR (E' := retE E1 [some id]) (fun b hb => ⟨Or.inl hb, rfl⟩) hv2 hz2'⟩
  ·have : a'.tmps.getD d undef = .pointer (some ⟨b, 0, none⟩) := by simp [Array.getD_eq_getD_getElem?, hy1]
   simp [results, hr, hy1, hz1, hz2]
  ·have hX := hA.ext
   refine ⟨hX.os, hX.tape, hX.output, hX.size, hX.block, fun b hb => .inl (hX.grow b hb), fun b hb => ?_, fun b hb => hX.own b (hκ2 b hb)⟩
   rcases hb with hb | ⟨i, q, hq, _⟩
   ·exact hX.from_ b hb
   ·exact .inr (hX.own b (by simp [hq]))
  ·intro c hc
   rcases hc with hc | ⟨i, q, hq, hp⟩
   ·simp only [retE, hA.mr.apart c hc]
   ·simp only [retE, hq, hp, Option.map_none]
  ·intro c hc
   rcases hc with hc | ⟨i, q, hq, _⟩
   ·exact hA.mr.ltS c hc
   ·exact hA.mr.ltκ c (by simp [hq])
  ·intro c r q hq
   simp only [retE] at hq
   split at hq
   ·rename_i i q' hi
    simp only [Option.map_eq_some_iff, Prod.mk.injEq] at hq
    obtain ⟨k, hk, rfl, rfl⟩ := hq
    have := pos_lt hk
    simp at this
    rw [this]
   ·simp at hq
  ·simp only [retE, f2]
   simp [pos]
 cases e with
 | normal => exact fin h2
 | ret => exact fin h2
 | exit id => exact h2.elim
 | goto l => exact h2.elim
 | panic c => exact h2.elim
 | outgrown => exact h2.elim
theorem VO.callB3 (tys : List PT) {o : Oper} {d : Nat} {f : FuncId} {ps : List AV} {l : List Lf} {t : TypeId} {r1 r2 : Lf} (h : evArgs false tys [] n s o = some (some d, f, ps)) (hc : ConB3 P f ps l t r1 r2)
  (k : VO P n w0 E0 ops Q rest ⟨(d, .tup [.lf (.ptr s.H.length 0 0 0), .lf r1, .lf r2]) :: s.sl, s.H ++ [some (.box l t)]⟩) (ht : Tabs P w0 E0.toEnv := by assumption) : VO P n w0 E0 ops Q (o :: rest) s := by
 intro a w hs
 obtain ⟨E, μ, hA⟩ := hs.at
 unfold evArgs at h
 split at h
 ·rename_i c hg ho
  split at h
  ·rename_i f' l' hcal
   split at h
   ·rename_i ps' cs' hps hcs
    obtain ⟨x, arr, hx1, hx2, hx3⟩ : ∃ x arr, c.callee = .value x ∧ a.eval x = .func (.func f') #[] arr ∧ All2 (SR w E μ s.H) l' arr.toList := by
     unfold evCallee at hcal
     split at hcal
     ·rename_i x hx
      split at hcal
      ·rename_i f2 l2 hv
       simp only [Option.some.injEq, Prod.mk.injEq] at hcal
       obtain ⟨rfl, rfl⟩ := hcal
       obtain ⟨arr, h1, h2⟩ := hA.opnd hv
       exact ⟨x, arr, hx, h1, h2⟩
      ·simp at hcal
     ·simp at hcal
    have hfin : f' = f ∧ ps = ps' ++ cs'.map svAV ∧ o.dst = some d ∧ d < n := by
     split at h
     ·simp at h
     ·rename_i d' hd
      cases hb : Nat.blt d' n with
      | false => rw [hb] at h; simp at h
      | true =>
       rw [hb] at h
       simp only [cond_true, Option.some.injEq, Prod.mk.injEq] at h
       obtain ⟨rfl, rfl, rfl⟩ := h
       exact ⟨rfl, rfl, hd, by simpa [Nat.blt_eq] using hb⟩
    obtain ⟨rfl, rfl, hd, hdn⟩ := hfin
    have hargs : All2 (AR w (brE false E) (fun _ => undef) []) (ps' ++ cs'.map svAV) (c.args.map a.eval ++ arr).toList := by
     rw [Array.toList_append, Array.toList_map]
     refine (fitAs_run hA hps).append ?_
     have h2 := fitSs_run (br := false) hA.mr hcs hx3
     have : ∀ {xs : List SV} {ys : List Value}, All2 (SR w (brE false E) (fun _ => undef) []) xs ys → All2 (AR w (brE false E) (fun _ => undef) []) (xs.map svAV) ys := by
      intro xs ys h
      induction h with
      | nil => exact .nil
      | cons h1 _ ih => exact .cons (svAV_AR h1) ih
     exact this h2
    have hcall := hc.calls w (brE false E) (c.args.map a.eval ++ arr) (fun b => brE_κ) (fun b hb => hA.mr.ltS b hb) ((ht.ext hA.ext).env (fun b _ => brE_κ)) hargs
    refine wpList_plain hg fun K hK => ?_
    have hrun : (execOp a.eval o).run P w = .ok (.enter f' (c.args.map a.eval ++ arr)) w := by
     simp only [execOp, ho, resolve, hx1, hx2, Deferred.ofValue, Sem.run_bind, Sem.run_pure, Result.andThen_ok, invoke, Array.empty_append, hc.enters]
    simp only [Oper.wp, hrun, Oper.upon_enter]
    refine hcall.mono ?_
    rintro e w' ⟨b, arr', E', z1, z2, rfl, hX, hap, hlS, hlκ, hro, hb0, hheap, hL, hz1, hz2⟩
    simp only
    refine hK _ _ ?_
    obtain ⟨m1, m2, m3, m4⟩ := MR.backB hA.mr hX hap hlS hlκ hro hb0 hheap hc.vals hL
    rw [hd]
    refine k _ _ (hA.put hdn m1 m2 m3 m4 ?_).rel
    have hμ := backμ_new (μ := μ) (base := s.H.length) (vs := [Value.pointer (some ⟨b, 0, none⟩)]) (i := 0) (v := .pointer (some ⟨b, 0, none⟩)) rfl
    simp only [Nat.add_zero] at hμ
    have hH : (s.H ++ [some (Blk.box l t)])[s.H.length]? = some (some (.box l t)) := by simp
    have k0 : LR w' (backE false E E' s.H.length) (backμ μ s.H.length [.pointer (some ⟨b, 0, none⟩)]) (s.H ++ [some (.box l t)]) (.ptr s.H.length 0 0 0) (.pointer (some ⟨b, 0, none⟩)) := by
     simp only [LR, hH]
     exact ⟨rfl, b, hμ, rfl⟩
    exact ⟨_, rfl, .cons k0 (.cons (val_LR (E := E') (E' := backE false E E' s.H.length) (fun b hb => ⟨hb, rfl⟩) hc.val1 hz1) (.cons (val_LR (E := E') (E' := backE false E E' s.H.length) (fun b hb => ⟨hb, rfl⟩) hc.val2 hz2) .nil))⟩
   ·simp at h
  ·simp at h
 ·simp at h
end
end Go.Proofs.YtnkgeljjjeeaaaaGreatDoor.Vc
namespace Go.Proofs.YtnkgeljjjeeaaaaGreatDoor.Vc
open Go Go.RowKit
set_option linter.unusedVariables false
set_option linter.unusedSimpArgs false
section
variable {P : Program} {w w' : World} {E E' : Env} {μ μ' : Nat → Value} {H H' : Heap}
theorem args1 {E : Env} {args : Array Value} {p : AV} (h : All2 (AR w E (fun _ => undef) []) [p] args.toList) : ∃ y, args = #[y] ∧ AR w E (fun _ => undef) [] p y := by
 obtain ⟨l⟩ := args
 cases h with
 | cons h1 h2 =>
  cases h2
  exact ⟨_, rfl, h1⟩
theorem args2 {E : Env} {args : Array Value} {p q : AV} (h : All2 (AR w E (fun _ => undef) []) [p, q] args.toList) : ∃ y z, args = #[y, z] ∧ AR w E (fun _ => undef) [] p y ∧ AR w E (fun _ => undef) [] q z := by
 obtain ⟨l⟩ := args
 cases h with
 | cons h1 h2 =>
  cases h2 with
  | cons h3 h4 =>
   cases h4
   exact ⟨_, _, rfl, h1, h3⟩
theorem str_back {ps : List AV} {w w' : World} {E : Env} {s : ByteArray} (hκ : ∀ b, E.κ b = none) (hlt : ∀ b, E.S b → b < w.heap.size) (hB : Below w.heap.size w w') :
  ∃ y E', Ending.returned (Value.string s) = .returned y ∧ Ext w E w' E' ∧ (∀ b, E'.S b → E'.κ b = none) ∧ (∀ b, E'.S b → b < w'.heap.size) ∧ (∀ b, E'.κ b ≠ none → b < w'.heap.size) ∧
   (∀ b r q, E'.κ b = some (r, q) → ∃ n, r = .res n ∧ n < cntC [.lf (.v .str s)]) ∧ RR w' E' [.lf (.v .str s)] y := by
 refine ⟨.string s, E, rfl, ⟨hB.os, hB.tape, hB.output, hB.size, fun b hb _ => hB.block b hb, fun _ h => h, fun _ h => .inl h, fun b h => .inl h⟩, fun b _ => hκ b, fun b hb => Nat.lt_of_lt_of_le (hlt b hb) hB.size, fun b h => absurd (hκ b) h, (fun b r q h => by rw [hκ] at h; cases h), ?_⟩
 simp [RR, RCs, RLs, Rep, at0]
theorem Tabs.of_tab (h : Lib.TabIs P w "internal/strconv.uint64pow10" .u64 Lib.pow10Tab) (h1 : Lies P w (allE w) "internal/bytealg.MaxLen" IntV) (h2 : Lies P w (allE w) "strconv.ErrSyntax" ErrV) (h3 : Lies P w (allE w) "strconv.ErrRange" ErrV) : Tabs P w (allE w) := by
 intro g hg
 refine ⟨⟨rfl, ?_, h⟩, h1, h2, h3⟩
 simp only [Lib.TabIs, World.var?, hg, Option.bind_some] at h
 split at h
 ·rename_i cs t fr hc
  exact (Array.getElem?_eq_some_iff.1 hc).1
 ·cases h
theorem con_itoa {f : FuncId} {g : Nat} (hg : P.globalNamed "internal/strconv.uint64pow10" = some g) (he : ∀ args w, (callFunc f args).run P w = .ok (.enter f args) w) {n : Int}
  (h : ∀ w, Lib.TabIs P w "internal/strconv.uint64pow10" .u64 Lib.pow10Tab → Calls P f #[.int .i64 n] w fun e w' => e = .returned (.string ⟨(Lib.itoa n).toArray⟩) ∧ ∃ k os, w' = Sort.grow (w.drewN k) os) :
  Con P f [I n] [.lf (.v .str ⟨(Lib.itoa n).toArray⟩)] := by
 refine ⟨he, fun w E args hκ hlt ht hargs => ?_⟩
 obtain ⟨y, rfl, hy⟩ := args1 hargs
 simp only [AR, LR, Rep, at0, if_true, Option.some.injEq] at hy
 subst hy
 refine (h w (ht g hg).1.2.2).mono ?_
 rintro e w' ⟨rfl, k, os, rfl⟩
 refine str_back (ps := []) hκ hlt ⟨rfl, rfl, rfl, ?_, fun b hb => ?_⟩
 ·simp [Sort.grow, World.drewN]
 ·simp only [Sort.grow, World.drewN]
  rw [Array.getElem?_append_left hb]
theorem con_join {f : FuncId} (he : ∀ args w, (callFunc f args).run P w = .ok (.enter f args) w) {xs : List ByteArray} {sep : ByteArray} (hN : xs.length ≤ 140737488355328) (hlen : (Lib.join (xs.map (·.data.toList)) sep.data.toList).length ≤ 140737488355328)
  (h0 : ∀ (a : Option Addr) (c : Nat) w, Calls P f #[.slice a 0 c, .string sep] w fun e w' => e = .returned (.string ⟨#[]⟩) ∧ w' = w)
  (h : ∀ (bk o c : Nat) w, (∀ (j : Nat) x, xs[j]? = some x → w.cell? ⟨bk, o + j, none⟩ = some (.string x)) → bk < w.heap.size → xs.length ≤ c →
   Calls P f #[.slice (some ⟨bk, o, none⟩) xs.length c, .string sep] w fun e w' => e = .returned (.string ⟨(Lib.join (xs.map (·.data.toList)) sep.data.toList).toArray⟩) ∧ Below w.heap.size w w') :
  Con P f [.lf (.v (.sl .str) xs), S sep] [.lf (.v .str ⟨(Lib.join (xs.map (·.data.toList)) sep.data.toList).toArray⟩)] := by
 refine ⟨he, fun w E args hκ hlt ht hargs => ?_⟩
 obtain ⟨y, z, rfl, hy, hz⟩ := args2 hargs
 simp only [AR, LR, Rep, at0, if_true, Option.some.injEq] at hz
 subst hz
 obtain ⟨v, hv, hy⟩ : Rep w E (.res 0) (.sl .str) xs .fz (fun _ => .top) (at0 y) := hy
 simp only [at0, if_true, Option.some.injEq] at hv
 subst hv
 rcases hy with ⟨_, hy⟩ | ⟨hm, _⟩
 ·rcases hy with ⟨rfl, a, c, rfl⟩ | ⟨b, o, c, rfl, hc, hb, hrows⟩
  ·refine (h0 a c w).mono ?_
   rintro e w' ⟨rfl, rfl⟩
   exact str_back (ps := []) hκ hlt (Below.refl _ _)
  ·refine (h b o c w (fun j x hx => ?_) (hlt b hb) hc).mono ?_
   ·obtain ⟨hj, rfl⟩ := List.getElem?_eq_some_iff.1 hx
    have := hrows j hj
    simpa [Rep, Ty.lv, cellAt] using this
   ·rintro e w' ⟨rfl, hB⟩
    exact str_back (ps := []) hκ hlt hB
 ·exact absurd rfl hm
end
end Go.Proofs.YtnkgeljjjeeaaaaGreatDoor.Vc
namespace Go.Proofs.YtnkgeljjjeeaaaaGreatDoor.Vc
open Go Go.RowKit
set_option linter.unusedVariables false
set_option linter.unusedSimpArgs false
section
variable {P : Program} {w w' : World} {E E' : Env} {μ μ' : Nat → Value} {H H' : Heap}
theorem flat_back {rs : List RC} {y : Value} (hκ : ∀ b, E.κ b = none) (hlt : ∀ b, E.S b → b < w.heap.size) (hB : Below w.heap.size w w') (hR : RR w' E rs y) :
  ∃ y' E', Ending.returned y = .returned y' ∧ Ext w E w' E' ∧ (∀ b, E'.S b → E'.κ b = none) ∧ (∀ b, E'.S b → b < w'.heap.size) ∧ (∀ b, E'.κ b ≠ none → b < w'.heap.size) ∧
   (∀ b r q, E'.κ b = some (r, q) → ∃ n, r = .res n ∧ n < cntC rs) ∧ RR w' E' rs y' :=
 ⟨y, E, rfl, ⟨hB.os, hB.tape, hB.output, hB.size, fun b hb _ => hB.block b hb, fun _ h => h, fun _ h => .inl h, fun b h => .inl h⟩, fun b _ => hκ b, fun b hb => Nat.lt_of_lt_of_le (hlt b hb) hB.size, fun b h => absurd (hκ b) h, (fun b r q h => by rw [hκ] at h; cases h), hR⟩
theorem texts_back {xs : List ByteArray} {v : Value} {ty : TypeId} (hκ : ∀ b, E.κ b = none) (hlt : ∀ b, E.S b → b < w.heap.size) (hown : w'.ownsRow w.heap.size ty 1 v xs.length (xs.map Value.string)) (hB : Below w.heap.size w w') :
  ∃ y' E', Ending.returned v = .returned y' ∧ Ext w E w' E' ∧ (∀ b, E'.S b → E'.κ b = none) ∧ (∀ b, E'.S b → b < w'.heap.size) ∧ (∀ b, E'.κ b ≠ none → b < w'.heap.size) ∧
   (∀ b r q, E'.κ b = some (r, q) → ∃ n, r = .res n ∧ n < cntC [.lf (.own .str xs .dp)]) ∧ RR w' E' [.lf (.own .str xs .dp)] y' := by
 rcases hown.2 with ⟨rfl, h0⟩ | ⟨g, cap, cur, rfl, hb, hg, hn, hm, hs, htk⟩
 ·obtain rfl : xs = [] := List.length_eq_zero_iff.mp h0
  refine flat_back hκ hlt hB ?_ |>.imp fun y ⟨E', h1, h2, h3, h4, h5, h6, h7⟩ => ⟨E', h1, h2, h3, h4, h5, h6, h7⟩
  exact ⟨⟨⟨by simp, _, by simp [at0], .inr ⟨by simp, .inl ⟨rfl, none, rfl⟩⟩⟩, trivial⟩, trivial⟩
 ·have hgl : g < w'.heap.size := (Array.getElem?_eq_some_iff.1 hg).1
  refine ⟨_, ⟨E.S, fun c => if c = g then some (.res 0, .top) else none⟩, rfl, ⟨hB.os, hB.tape, hB.output, hB.size, fun b hb _ => hB.block b hb, fun _ h => h, fun _ h => .inl h, fun b h => ?_⟩, fun b hb => ?_, fun b hb => Nat.lt_of_lt_of_le (hlt b hb) hB.size, fun b h => ?_, fun b r q h => ?_, ?_⟩
  ·simp only at h
   split at h
   ·subst b; exact .inr hb
   ·exact absurd rfl h
  ·have := hlt b hb
   simp only
   rw [if_neg (by omega)]
  ·simp only at h
   split at h
   ·subst b; exact hgl
   ·exact absurd rfl h
  ·simp only at h
   split at h
   ·simp only [Option.some.injEq, Prod.mk.injEq] at h
    exact ⟨0, h.1.symm, by simp [cntC, cnt, RC.ls]⟩
   ·cases h
  ·refine ⟨⟨⟨by simp, _, by simp [at0], .inr ⟨by simp, .inr ⟨g, cap, cur, ty, rfl, hn, hg, by simp only [Ty.lv]; exact hs, by simp, fun j hj => ?_⟩⟩⟩, trivial⟩, trivial⟩
   have h1 : (cur.toList.take (xs.length * 1))[j]? = (xs.map Value.string)[j]? := by rw [htk]
   rw [List.getElem?_take_of_lt (by omega), Array.getElem?_toList] at h1
   simp only [Rep, Ty.lv, Nat.mul_one, Nat.add_zero, cellAt, World.cell?, hg, Option.isSome_none, Bool.false_eq_true, if_false]
   simp [h1, hj]
theorem Tabs.maxLen (ht : Tabs P w E) {gp g : Nat} (hp : P.globalNamed "internal/strconv.uint64pow10" = some gp) (hg : P.globalNamed "internal/bytealg.MaxLen" = some g) : ∃ m, w.cell? ⟨g, 0, none⟩ = some (.int .i64 m) := by
 obtain ⟨_, _, v, h1, m, rfl⟩ := (ht gp hp).2.1 g hg
 exact ⟨m, h1⟩
theorem con_split {f : FuncId} {gp g : Nat} (hp : P.globalNamed "internal/strconv.uint64pow10" = some gp) (hg : P.globalNamed "internal/bytealg.MaxLen" = some g)
  (he : ∀ args w, (callFunc f args).run P w = .ok (.enter f args) w) {s sep : ByteArray} {xs : List ByteArray} {n : Nat} {ty : TypeId} (hl : xs.length = n) (hn : n ≤ 4294967296)
  (h : ∀ (m : Int) w, w.cell? ⟨g, 0, none⟩ = some (.int .i64 m) → Calls P f #[.string s, .string sep] w fun e w' => e = .returned (.slice (some ⟨w.heap.size, 0, none⟩) n n) ∧ w' = w.alloc (.cells (xs.map Value.string).toArray ty)) :
  Con P f [S s, S sep] [.lf (.own .str xs .dp)] := by
 refine ⟨he, fun w E args hκ hlt ht hargs => ?_⟩
 obtain ⟨y, z, rfl, hy, hz⟩ := args2 hargs
 simp only [AR, LR, Rep, at0, if_true, Option.some.injEq] at hy hz
 subst hy
 subst hz
 obtain ⟨m, hm⟩ := ht.maxLen hp hg
 refine (h m w hm).mono ?_
 rintro e w' ⟨rfl, rfl⟩
 have hB : Below w.heap.size w (w.alloc (.cells (xs.map Value.string).toArray ty)) := (Below.refl _ _).alloc (Nat.le_refl _) _
 refine texts_back hκ hlt ⟨by simp, .inr ⟨w.heap.size, n, _, by rw [hl], Nat.le_refl _, heap_alloc_new w _, by omega, by unfold maxLen; omega, by simp [hl], ?_⟩⟩ hB
 rw [List.take_of_length_le (by simp)]
theorem con_cut {f : FuncId} {gp g : Nat} (hp : P.globalNamed "internal/strconv.uint64pow10" = some gp) (hg : P.globalNamed "internal/bytealg.MaxLen" = some g)
  (he : ∀ args w, (callFunc f args).run P w = .ok (.enter f args) w) {s sep a b : ByteArray} {c : Bool}
  (h : ∀ (m : Int) w, w.cell? ⟨g, 0, none⟩ = some (.int .i64 m) → Calls P f #[.string s, .string sep] w fun e w' => e = .returned (.tuple #[.string a, .string b, .bool c]) ∧ ∃ n, w' = w.drewN n) :
  Con P f [S s, S sep] [.lf (.v .str a), .lf (.v .str b), .lf (.v .bool c)] := by
 refine ⟨he, fun w E args hκ hlt ht hargs => ?_⟩
 obtain ⟨y, z, rfl, hy, hz⟩ := args2 hargs
 simp only [AR, LR, Rep, at0, if_true, Option.some.injEq] at hy hz
 subst hy
 subst hz
 obtain ⟨m, hm⟩ := ht.maxLen hp hg
 refine (h m w hm).mono ?_
 rintro e w' ⟨rfl, n, rfl⟩
 refine flat_back hκ hlt ⟨rfl, rfl, rfl, Nat.le_refl _, fun _ _ => rfl⟩ ?_
 exact ⟨_, rfl, by simp [RCs, RLs, Rep, at0]⟩
abbrev noE : Env := ⟨fun _ => False, fun _ => none⟩
theorem ext_below (hB : Below w.heap.size w w') : Ext w noE w' noE := ⟨hB.os, hB.tape, hB.output, hB.size, fun b hb _ => hB.block b hb, fun _ h => h, fun _ h => .inl h, fun b h => .inl h⟩
theorem Tabs.below (h : Tabs P w noE) (hB : Below w.heap.size w w') : Tabs P w' noE := h.ext (ext_below hB)
theorem Con.plain {f : FuncId} {ps : List AV} {rs : List RC} (hc : Con P f ps rs) (hT : Tabs P w noE) {args : Array Value} (ha : All2 (AR w noE (fun _ => undef) []) ps args.toList) :
  Calls P f args w fun e w' => ∃ y E', e = .returned y ∧ Below w.heap.size w w' ∧ RR w' E' rs y := by
 refine (hc.calls w noE args (fun _ => rfl) (fun b h => h.elim) hT ha).mono ?_
 rintro e w' ⟨y, E', rfl, hX, _, _, _, _, hR⟩
 exact ⟨y, E', rfl, ⟨hX.os, hX.tape, hX.output, hX.size, fun b hb => hX.block b hb rfl⟩, hR⟩
theorem Con.plain_text {f : FuncId} {n : Int} {t : ByteArray} (hc : Con P f [I n] [.lf (.v .str t)]) (hT : Tabs P w noE) : Calls P f #[.int .i64 n] w fun e w' => e = .returned (.string t) ∧ Below w.heap.size w w' := by
 refine (hc.plain hT (args := #[.int .i64 n]) (All2.cons (by simp [AR, LR, Rep, at0]) All2.nil)).mono ?_
 rintro e w' ⟨y, E', rfl, hB, hR⟩
 simp only [RR, RCs, RLs, Rep, at0, if_true, Option.some.injEq, and_true] at hR
 exact ⟨by rw [hR], hB⟩
theorem Con.plain_bool {f : FuncId} {n : Int} {t : Bool} (hc : Con P f [I n] [.lf (.v .bool t)]) (hT : Tabs P w noE) : Calls P f #[.int .i64 n] w fun e w' => e = .returned (.bool t) ∧ Below w.heap.size w w' := by
 refine (hc.plain hT (args := #[.int .i64 n]) (All2.cons (by simp [AR, LR, Rep, at0]) All2.nil)).mono ?_
 rintro e w' ⟨y, E', rfl, hB, hR⟩
 simp only [RR, RCs, RLs, Rep, at0, if_true, Option.some.injEq, and_true] at hR
 exact ⟨by rw [hR], hB⟩
theorem Tabs.err1 (ht : Tabs P w E) {gp g : Nat} (hp : P.globalNamed "internal/strconv.uint64pow10" = some gp) (hg : P.globalNamed "strconv.ErrSyntax" = some g) : ∃ v, w.cell? ⟨g, 0, none⟩ = some v ∧ ErrV v :=
 let ⟨_, _, v, h1, h2⟩ := (ht gp hp).2.2.1 g hg
 ⟨v, h1, h2⟩
theorem Tabs.err2 (ht : Tabs P w E) {gp g : Nat} (hp : P.globalNamed "internal/strconv.uint64pow10" = some gp) (hg : P.globalNamed "strconv.ErrRange" = some g) : ∃ v, w.cell? ⟨g, 0, none⟩ = some v ∧ ErrV v :=
 let ⟨_, _, v, h1, h2⟩ := (ht gp hp).2.2.2 g hg
 ⟨v, h1, h2⟩
theorem con_read {f : FuncId} (he : ∀ args w, (callFunc f args).run P w = .ok (.enter f args) w) {s : ByteArray} {x : Int} {b : Bool}
  (h : ∀ w, Tabs P w noE → Calls P f #[.string s] w fun e w' => e = .returned (.tuple #[.int .i64 x, .bool b]) ∧ Below w.heap.size w w') :
  Con P f [S s] [.lf (.v (.int .i64) x), .lf (.v .bool b)] := by
 refine ⟨he, fun w E args hκ hlt ht hargs => ?_⟩
 obtain ⟨y, rfl, hy⟩ := args1 hargs
 simp only [AR, LR, Rep, at0, if_true, Option.some.injEq] at hy
 subst hy
 refine (h w (ht.env fun _ _ => rfl)).mono ?_
 rintro e w' ⟨rfl, hB⟩
 refine flat_back hκ hlt hB ?_
 exact ⟨_, rfl, by simp [RCs, RLs, Rep, at0]⟩
def NumV (v : Int) : Prop := -1000000 ≤ v ∧ v ≤ 1000000
instance (v : Int) : Decidable (NumV v) := inferInstanceAs (Decidable (_ ∧ _))
def rdV (s : ByteArray) : Int × Bool := match Lib.atoiAll s.data.toList with
 | .ok v => if (⟨(Lib.itoa v).toArray⟩ : ByteArray) = s ∧ NumV v then (v, true) else (0, false)
 | _ => (0, false)
theorem atoi_range {l : List UInt8} {v : Int} (h : Lib.atoiAll l = .ok v) : -9223372036854775808 ≤ v ∧ v ≤ 9223372036854775807 := by
 unfold Lib.atoiAll at h
 split at h
 ·cases h
 ·dsimp only at h
  split at h
  ·cases h
  ·cases h
  ·split at h
   ·cases h
   ·split at h
    ·cases h
    ·rename_i h1 h2
     injection h with h
     subst h
     split <;> omega
theorem lies_int {nm : String} {g : Nat} (hg : P.globalNamed nm = some g) (h : ∃ m, w.cell? ⟨g, 0, none⟩ = some (.int .i64 m)) : Lies P w (allE w) nm IntV := by
 intro g' hg'
 obtain rfl := Option.some.inj (hg.symm.trans hg')
 obtain ⟨m, hm⟩ := h
 exact ⟨rfl, World.block_lt_of_cell? w _ hm, _, hm, m, rfl⟩
theorem lies_err {nm : String} {g : Nat} {tp : TypeId} {p : Value} (hg : P.globalNamed nm = some g) (h : w.var? P nm = some #[.iface tp p]) : Lies P w (allE w) nm ErrV := by
 intro g' hg'
 obtain rfl := Option.some.inj (hg.symm.trans hg')
 have h0 : w.cell? ⟨g, 0, none⟩ = some (.iface tp p) := by have h0 := World.var?_cell hg h 0; simpa using h0
 exact ⟨rfl, World.block_lt_of_cell? w _ h0, _, h0, .inr ⟨tp, p, rfl⟩⟩
theorem returns_shaped {H : Type} {enc : TypeId × Value → H} {a : Assume} {C : Checked} {os : Os} {f : FuncId} {fn : Func} {s : ChangeSpec} {conds : List PathCond} {apart fresh handsOn again : Bool} {X : World → Array Value → Prop}
  (hX : ∀ (w w' : World) (args : Array Value), w.heap = w'.heap → X w args → X w' args)
  (own : ownKnob C.prog.godebug = none) (started : os.Started) (noInit : C.prog.inits.idxOf? f = none) (hfn : C.prog.funcs[f]? = some fn)
  (witness : ∃ (w : World) (tape : Tape) (i : Input), w.os = os ∧ (w.forCall tape i).Shaped C.prog ∧ i.vars = [] ∧ Input.okWide C.prog (w.forCall tape i) .any w.heap.size f i ∧
   ((s.pre enc C.prog fn conds apart (w.forCall tape i).memory i.args ∧ X (w.forCall tape i).memory i.args) ∧ sizedMet enc C.prog fn (OpenSpec.ofChange s) apart (w.forCall tape i).memory i.args) ∧ a.holds C.prog (lone (Frame.enter C.prog f i.args .normal) [] (w.forCall tape i)))
  (contract : ∀ (W : World) (base : Nat) (args : Array Value) (ds gs : List (DataW H)) (before : List MemPlace),
   (∀ (j : Nat) t v, fn.params[j]? = some t → args[j]? = some v → Value.okWide C.prog W .any base t v) →
   DataW.Whole enc C.prog fn.params.toList s.vars apart W args.toList ds gs before → X W args → W.ShapedOpen C.prog →
   Calls C.prog f args W fun e W' => ∃ v, e = .returned v ∧ s.post enc C.prog fn apart fresh handsOn again W args v W') :
  ReturnsInHanded a C os f .any (fun w args => (s.pre enc C.prog fn conds apart w args ∧ X w args) ∧ sizedMet enc C.prog fn (OpenSpec.ofChange s) apart w args) (s.post enc C.prog fn apart fresh handsOn again) := by
 refine returnsInHanded_of_calls own started noInit witness ?_
 intro w tape i _ hsh _ hok hpre hholds
 obtain ⟨_, _, _, fn', hfn', _, _, _, _, hval⟩ := hok
 have e : fn' = fn := Option.some.inj (hfn'.symm.trans hfn)
 subst e
 obtain ⟨⟨⟨ds, gs, before, hw, hc⟩, hx⟩, hz⟩ := hpre
 have hw' := DataW.Whole.of_heap (w' := w.forCall tape i) (by rfl) hw
 refine (contract (w.forCall tape i) w.heap.size i.args ds gs before hval hw' (hX _ _ _ (by rfl) hx) hsh).mono fun e W' ⟨v, he, hp⟩ => ?_
 subst he
 exact ChangeSpec.post_blind hp
end
end Go.Proofs.YtnkgeljjjeeaaaaGreatDoor.Vc
