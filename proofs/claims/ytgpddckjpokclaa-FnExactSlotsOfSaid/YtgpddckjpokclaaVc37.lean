/- A calculus of values over the model, part 37: a string's bytes, and rows of zeros, are appended; the room of a nil slice; a row of bytes that was told as a string's; rows frozen in a region that draws its order. It speaks of any program. -/
import Derived.Test.YtgpddckjpokclaaVc36
import Derived.Lib.AppendStr
namespace Go.Proofs.Ytgpddckjpokclaa.Vc
open Go Go.RowKit Go.Lib
set_option linter.unusedVariables false
set_option linter.unusedSimpArgs false

section
variable {P : Program} {T : Tab} {n : Nat} {w0 : World} {E0 : Env0} {s s' : St} {ops : Array Oper} {Q : Exit → St → Prop} {rest : List Oper}
variable {w w' : World} {E E' : Env} {μ μ' : Nat → Value} {H H' : Heap}

/-! ### append of a string -/
theorem append_run_s {t u elem : TypeId} {info : TypeInfo} {z : Value} (ht : P.underlying t = some (.slice elem)) (hu : P.underlying u = some .string) (hi : P.info? elem = some info) (hz : info.zero = some z) (hsz : info.size = 1) (hzs : z.cells.size = 1) (rt : TypeId) (s : ByteArray) :
    AppRun P w t u rt elem info.bytes 1 (.string s) s.size (strCells s) := by
  intro ty base sLen sCap olds hlo hcap hbase hfit hsm
  have hl := strCells_length s
  by_cases hm0 : s.size = 0
  · refine ⟨.slice base sLen sCap, w, ?_, .inl ⟨hm0, rfl, rfl⟩⟩
    have hf := run_firstCells_string (P := P) w 1 s
    have he : strCells s = [] := List.length_eq_zero_iff.1 (by rw [hl]; exact hm0)
    rw [he, hm0] at hf
    cases base with
    | none => simp [Builtin.append_, run_underlying ht, run_underlying hu, sizeOf, typeInfo, hi, hsz, Builtin.lenOf, hcap, hm0, hf]
    | some b => simp [Builtin.append_, run_underlying ht, run_underlying hu, sizeOf, typeInfo, hi, hsz, Builtin.lenOf, hcap, hm0, hf, storeCells]
  · by_cases hroom : sLen + s.size ≤ sCap
    · rcases hbase with ⟨h0, _⟩ | ⟨g, cur, rfl, hg, hcur, ho⟩
      · omega
      · have hst := run_storeCells_at P g sLen ty (strCells s) 0 cur w hg (by omega) (strCells_oneCell s)
        simp only [Nat.add_zero, hl] at hst
        have hf := run_firstCells_string (P := P) w 1 s
        refine ⟨.slice (some ⟨g, 0, none⟩) (sLen + s.size) sCap, _, ?_, .inr (.inl ⟨by omega, g, cur, rfl, hg, hcur, hroom, rfl, rfl⟩)⟩
        simp [Builtin.append_, run_underlying ht, run_underlying hu, sizeOf, typeInfo, hi, hsz, Builtin.lenOf, hroom, hf, Addr.add_lit, hst, hl]
    · have hcaple : sLen + s.size ≤ grownCap w (sLen + s.size) sCap elem := by
        have : sLen + s.size ≤ maxLen := by unfold maxLen; omega
        simp [grownCap, Question.cut]
      have hfit2 : Builtin.nextslicecap (sLen + s.size) sCap * info.bytes ≤ 281474976710656 := growslice_fits (by omega) hfit
      rcases hbase with ⟨h0, rfl⟩ | ⟨g, cur, rfl, hg, hcur, ho⟩
      · have hs0 : sLen = 0 := by omega
        subst h0 hs0
        simp only [Nat.zero_add] at hcaple hfit2
        cases base with
        | none =>
          have := run_append_nil_string (P := P) (w := w) t u rt elem info z ht hu hi hz s (by omega) (by omega) (by rw [Nat.zero_add] at hfit; omega)
          refine ⟨_, _, this, .inr (.inr ⟨by omega, grownCap w s.size 0 elem, _, by simpa using hcaple, by simp, rfl, ?_, Builtin.zeroCells z.cells (grownCap w s.size 0 elem - s.size) |>.toList, by simp [strCells]⟩)⟩
          simp only [Array.size_append, Array.size_map, size_zeroCells, hzs, Nat.mul_one]
          show s.size + _ = _
          omega
        | some b0 =>
          have := run_append_grow_string (P := P) w t u rt elem info z ht hu hi hz b0 0 0 [] (by simp) (by simp) s (by omega) (by omega) (by simpa using hfit2)
          simp only [Nat.zero_add] at this
          refine ⟨_, _, this, .inr (.inr ⟨by omega, grownCap w s.size 0 elem, _, by simpa using hcaple, by simp, rfl, ?_, Builtin.zeroCells z.cells (grownCap w s.size 0 elem - s.size) |>.toList, by simp⟩)⟩
          simp only [Array.size_append, List.size_toArray, hl, size_zeroCells, hzs, List.length_nil, Nat.mul_one]
          omega
      · have := run_append_grow_string (P := P) w t u rt elem info z ht hu hi hz ⟨g, 0, none⟩ sLen sCap olds (by rw [hsz]; exact hlo) ho s (by omega) (by omega) hfit2
        refine ⟨_, _, this, .inr (.inr ⟨by omega, grownCap w (sLen + s.size) sCap elem, _, hcaple, rfl, rfl, ?_, Builtin.zeroCells z.cells (grownCap w (sLen + s.size) sCap elem - (sLen + s.size)) |>.toList, by simp⟩)⟩
        simp only [Array.size_append, List.size_toArray, hl, hlo, size_zeroCells, hzs, Nat.mul_one]
        omega

def evAppS (T : Tab) (n : Nat) (s : St) (o : Oper) : Option (Nat × Prop × AV × Heap) :=
  match o.guard, o.dst, o.op with
  | none, some d, .call { callee := .builtin .append, args, argTypes } => cond (Nat.blt d n) (match args.toList, argTypes.toList with
    | [x, y], [t, t'] => cond (isBytes T t && isStr T t') (match opnd s.sl x, opnd s.sl y with
      | some vx, some (.lf (.v .str ys)) => match vx with
        | .lf .nil => some (d, (ys.size ≤ lim (.int .u8)), .lf (.hd s.H.length 0 none), s.H ++ [some (.arr 0 (.int .u8) (bytesOf ys) .dp)])
        | .lf (.hd id ver none) => match s.H[id]? with
          | some (some (.arr cur (.int .u8) xs m)) => cond (Nat.beq ver cur) (some (d, (xs.length + ys.size ≤ lim (.int .u8)), .lf (.hd id (ver + 1) none), s.H.set id (some (.arr (ver + 1) (.int .u8) (xs ++ bytesOf ys) m)))) none
          | _ => none
        | _ => none
      | _, _ => none) none
    | _, _ => none) none
  | _, _, _ => none

theorem bytesOf_length (z : ByteArray) : (bytesOf z).length = z.size := by
  simp [bytesOf]

theorem isBytes_elem {t : TypeId} (h : isBytes T t = true) (hT : TabOk P T) : ∃ ti, elemTy T t = some (ti, .int .u8) := by
  unfold isBytes at h
  split at h
  · rename_i e offs szs hi
    obtain ⟨h1, j, h2, h3⟩ := hT.slice hi rfl
    exact ⟨⟨.sl (.int .u8), e, offs, szs⟩, by simp [elemTy, hi]⟩
  · simp at h

theorem VO.appS {o : Oper} {d : Nat} {φ : Prop} {v : AV} {H' : Heap} (hT : TabOk P T) (h : evAppS T n s o = some (d, φ, v, H')) (hφ : φ) (k : VO P n w0 E0 ops Q rest ⟨(d, v) :: s.sl, H'⟩) : VO P n w0 E0 ops Q (o :: rest) s := by
  intro a w hs
  obtain ⟨E, μ, hA⟩ := hs.at
  unfold evAppS at h
  split at h
  · rename_i d' args argTypes hg hd ho
    cases hb : Nat.blt d' n with
    | false => rw [hb] at h; simp at h
    | true =>
      rw [hb] at h
      simp only [cond_true] at h
      have hdn : d' < n := by simpa [Nat.blt_eq] using hb
      split at h
      · rename_i x y t t' hargs hts
        cases ht : (isBytes T t && isStr T t') with
        | false => rw [ht] at h; simp at h
        | true =>
          rw [ht] at h
          simp only [cond_true] at h
          simp only [Bool.and_eq_true] at ht
          obtain ⟨ti, he⟩ := isBytes_elem ht.1 hT
          have hu := isStr_under hT ht.2
          have ha1 : args = #[x, y] := by rw [← Array.toArray_toList (xs := args), hargs]
          have ha2 : argTypes = #[t, t'] := by rw [← Array.toArray_toList (xs := argTypes), hts]
          split at h
          · rename_i vx ys hx hy
            have ey : a.eval y = .string ys := by
              have := hA.opnd hy
              simpa [AR, LR, Rep, at0] using this
            have hsrc : ∀ info z, P.info? ti.elem = some info → info.zero = some z → info.size = (Ty.int IntKind.u8).lv → z.cells.toList = (Ty.int IntKind.u8).zeros → ∃ news, SrcG P w E (.int .u8) (bytesOf ys) t t' o.type ti.elem info.bytes (a.eval y) news := by
              intro info z g1 hz g2 hz'
              refine ⟨strCells ys, by rw [strCells_length, bytesOf_length]; simp [Ty.lv], fun i hi => ?_, ?_⟩
              · rw [bytesOf_length] at hi
                simp only [Rep, Ty.lv, Nat.mul_one, Nat.add_zero, strCells, bytesOf, List.getElem?_map, List.getElem_map]
                have : i < ys.data.toList.length := by simpa using hi
                rw [List.getElem?_eq_getElem this]
                rfl
              · rw [ey, bytesOf_length]
                exact append_run_s (elemTy_under hT he).1 hu g1 hz g2 (by rw [← Array.length_toList, hz']; rfl) _ ys
            split at h
            · simp only [Option.some.injEq, Prod.mk.injEq] at h
              obtain ⟨rfl, rfl, rfl, rfl⟩ := h
              have hxx := hA.opnd hx
              exact app_nil hT hA ho rfl ha1 ha2 hg hd hdn he hxx hsrc (by rw [bytesOf_length]; exact hφ) k
            · rename_i id ver
              split at h
              · rename_i cur xs m hH
                cases hc : Nat.beq ver cur with
                | false => rw [hc] at h; simp at h
                | true =>
                  rw [hc] at h
                  have hv := Nat.eq_of_beq_eq_true hc
                  subst hv
                  simp only [cond_true, Option.some.injEq, Prod.mk.injEq] at h
                  obtain ⟨rfl, rfl, rfl, rfl⟩ := h
                  have hxx := hA.opnd hx
                  simp only [AR, LR, hH] at hxx
                  have h3 := hxx.2.2 trivial
                  simp only [HdR] at h3
                  exact app_hd hT hA ho rfl ha1 ha2 hg hd hdn he hH h3 (.inr rfl) hsrc (by rw [bytesOf_length]; exact hφ) k
              · simp at h
            · simp at h
          · simp at h
      · simp at h
  · simp at h

/-! ### append of rows of zeros to a nil slice -/
def isI64 (T : Tab) (t : TypeId) : Bool := match T t with
  | some { ty := .int .i64, .. } => true
  | _ => false

theorem zeroCells_one {z : Array Value} (hz : ∀ v ∈ z, v.oneCell' = true) (hn : 0 < z.size) (q : Nat) : ∀ v ∈ (Builtin.zeroCells z q).toList, v.oneCell' = true := by
  intro v hv
  simp only [Builtin.zeroCells, Array.toList_map, List.mem_map] at hv
  obtain ⟨i, _, rfl⟩ := hv
  have := Nat.mod_lt i hn
  rw [getElem!_pos z _ this]
  exact hz _ (Array.getElem_mem this)

theorem wrap_small {q : Nat} (h : q ≤ 140737488355328) : IntKind.i64.wrap (q : Int) = q := by
  have e : (q : Int) % 2 ^ 64 = q := Int.emod_eq_of_lt (by omega) (by omega)
  simp only [IntKind.wrap, IntKind.bits, IntKind.signed, e]
  split
  · rename_i h1
    simp at h1
    omega
  · rfl

theorem append_run_z {t u elem : TypeId} {info : TypeInfo} {z : Value} {e : Ty} (ht : P.underlying t = some (.slice elem)) (hu : P.underlying u = some (.int .i64)) (hi : P.info? elem = some info) (hz : info.zero = some z) (hsz : info.size = e.lv) (hzs : z.cells.toList = e.zeros) (rt : TypeId) (q : Nat) (hfq : q * info.bytes ≤ 140737488355328) (hsq : q ≤ 140737488355328) :
    AppRun P w t u rt elem info.bytes e.lv (.int .i64 q) q (Builtin.zeroCells z.cells q).toList := by
  intro ty base sLen sCap olds hlo hcap hbase hfit hsm
  have hw := wrap_small hsq
  have hpos := lv_pos e
  have hzl : z.cells.size = e.lv := by rw [← Array.length_toList, hzs, zeros_length]
  have hl : (Builtin.zeroCells z.cells q).toList.length = q * e.lv := by rw [Array.length_toList]; simp [size_zeroCells, hzl]
  have h1 : ∀ v ∈ (Builtin.zeroCells z.cells q).toList, v.oneCell' = true := zeroCells_one (fun v hv => zeros_one e v (by rw [← hzs]; exact Array.mem_toList_iff.2 hv)) (by omega) q
  have hneg : ¬ ((q : Int) < 0) := by omega
  have hbig : ¬ ((q : Int) * (info.bytes : Int) > 281474976710656) := by
    have : (q : Int) * (info.bytes : Int) = ((q * info.bytes : Nat) : Int) := by rw [Int.natCast_mul]
    omega
  by_cases hm0 : q = 0
  · subst hm0
    refine ⟨.slice base sLen sCap, w, ?_, .inl ⟨rfl, rfl, rfl⟩⟩
    have hw' : IntKind.i64.wrap (0 : Int) = 0 := hw
    cases base with
    | none => simp [Builtin.append_, run_underlying ht, run_underlying hu, sizeOf, typeInfo, hi, hcap, asInt, asIntOf, hw']
    | some b => simp [Builtin.append_, run_underlying ht, run_underlying hu, sizeOf, typeInfo, hi, hcap, asInt, asIntOf, hw', storeCells]
  · have hne : ¬ (q * e.lv = 0) := Nat.pos_iff_ne_zero.1 (Nat.mul_pos (by omega) hpos)
    by_cases hroom : sLen + q ≤ sCap
    · rcases hbase with ⟨h0, _⟩ | ⟨g, cur, rfl, hg, hcur, ho⟩
      · omega
      · have hmul : (sLen + q) * e.lv ≤ sCap * e.lv := Nat.mul_le_mul_right _ hroom
        rw [Nat.add_mul] at hmul
        have hst := run_storeCells_at P g (sLen * e.lv) ty (Builtin.zeroCells z.cells q).toList 0 cur w hg (by omega) h1
        simp only [Nat.add_zero] at hst
        refine ⟨.slice (some ⟨g, 0, none⟩) (sLen + q) sCap, _, ?_, .inr (.inl ⟨by omega, g, cur, rfl, hg, hcur, hroom, rfl, rfl⟩)⟩
        simp [Builtin.append_, run_underlying ht, run_underlying hu, sizeOf, typeInfo, zeroValue, hi, hz, hsz, asInt, asIntOf, hw, hneg, hbig, hne, hroom, Addr.add_lit, hst]
    · have hcaple : sLen + q ≤ grownCap w (sLen + q) sCap elem := by
        have : sLen + q ≤ maxLen := by unfold maxLen; omega
        simp [grownCap, Question.cut]
      have hfit2 : Builtin.nextslicecap (sLen + q) sCap * info.bytes ≤ 281474976710656 := growslice_fits (by omega) hfit
      have h48' : ¬ (281474976710656 < Builtin.nextslicecap (sLen + q) sCap * info.bytes) := by omega
      have h63' : ¬ (9223372036854775807 < ((sLen : Int) + (q : Int))) := by omega
      have hfo : ∃ f : Sem (Array Value), True := ⟨pure #[], trivial⟩
      have hold : (Builtin.firstCells info.size sLen (.slice base sLen sCap)).run P w.drew = .ok olds.toArray w.drew := by
        rcases hbase with ⟨h0, rfl⟩ | ⟨g, cur, rfl, hg, hcur, ho⟩
        · have hs0 : sLen = 0 := by omega
          subst hs0
          cases base with
          | none => simp [Builtin.firstCells]
          | some b => simp [Builtin.firstCells, loadCells, loadCellsFrom]
        · exact run_firstCells_some (P := P) w.drew info.size sLen ⟨g, 0, none⟩ sLen sCap olds (by rw [hsz]; exact hlo) (by simpa using ho)
      refine ⟨_, w.drew.alloc (.cells (olds.toArray ++ Builtin.zeroCells z.cells q ++ Builtin.zeroCells z.cells (grownCap w (sLen + q) sCap elem - (sLen + q))) elem), ?_, .inr (.inr ⟨by omega, grownCap w (sLen + q) sCap elem, _, hcaple, rfl, rfl, ?_, (Builtin.zeroCells z.cells (grownCap w (sLen + q) sCap elem - (sLen + q))).toList, by simp⟩)⟩
      · simp [Builtin.append_, run_underlying ht, run_underlying hu, sizeOf, typeInfo, zeroValue, hi, hz, hsz, asInt, asIntOf, hw, hneg, hbig, hne, hroom, h63', h48', Question.forced, newRow, grownCap]
        rw [hsz] at hold
        simp [hold]
      · rw [Array.length_toList] at hl
        simp only [Array.size_append, List.size_toArray, hl, hlo, size_zeroCells, hzl]
        rw [← Nat.add_mul, ← Nat.add_mul]
        congr 1
        omega

def evAppZ (T : Tab) (n : Nat) (s : St) (o : Oper) : Option (Nat × Prop × AV × Heap) :=
  match o.guard, o.dst, o.op with
  | none, some d, .call { callee := .builtin .append, args, argTypes } => cond (Nat.blt d n) (match args.toList, argTypes.toList with
    | [x, y], [t, t'] => cond (isI64 T t') (match elemTy T t, opnd s.sl x, opnd s.sl y with
      | some (_, e), some (.lf .nil), some (.lf (.v (.int .i64) q)) => some (d, (0 ≤ q ∧ q ≤ (lim e : Int)), .lf (.hd s.H.length 0 none), s.H ++ [some (.arr 0 e (List.replicate q.toNat e.dflt) (mdOf e))])
      | _, _, _ => none) none
    | _, _ => none) none
  | _, _, _ => none

theorem VO.appZ {o : Oper} {d : Nat} {φ : Prop} {v : AV} {H' : Heap} (hT : TabOk P T) (h : evAppZ T n s o = some (d, φ, v, H')) (hφ : φ) (k : VO P n w0 E0 ops Q rest ⟨(d, v) :: s.sl, H'⟩) : VO P n w0 E0 ops Q (o :: rest) s := by
  intro a w hs
  obtain ⟨E, μ, hA⟩ := hs.at
  unfold evAppZ at h
  split at h
  · rename_i d' args argTypes hg hd ho
    cases hb : Nat.blt d' n with
    | false => rw [hb] at h; simp at h
    | true =>
      rw [hb] at h
      simp only [cond_true] at h
      have hdn : d' < n := by simpa [Nat.blt_eq] using hb
      split at h
      · rename_i x y t t' hargs hts
        cases ht : isI64 T t' with
        | false => rw [ht] at h; simp at h
        | true =>
          rw [ht] at h
          simp only [cond_true] at h
          have hu : P.underlying t' = some (.int .i64) := by
            unfold isI64 at ht
            split at ht
            · rename_i hi
              exact (hT _ _ hi).under
            · simp at ht
          have ha1 : args = #[x, y] := by rw [← Array.toArray_toList (xs := args), hargs]
          have ha2 : argTypes = #[t, t'] := by rw [← Array.toArray_toList (xs := argTypes), hts]
          split at h
          · rename_i ti e q he hx hy
            simp only [Option.some.injEq, Prod.mk.injEq] at h
            obtain ⟨rfl, rfl, rfl, rfl⟩ := h
            have hq0 : (0 : Int) ≤ q := hφ.1
            have hq1 : Int.toNat q ≤ lim e := Int.toNat_le.2 hφ.2
            have ey : a.eval y = .int .i64 q := by
              have := hA.opnd hy
              simpa [AR, LR, Rep, at0] using this
            have hqe : ((q.toNat : Nat) : Int) = q := Int.toNat_of_nonneg hq0
            have hxx := hA.opnd hx
            have hlim0 : lim e ≤ 140737488355328 := Nat.div_le_self _ _
            refine app_nil hT hA ho rfl ha1 ha2 hg hd hdn he hxx (ys := List.replicate q.toNat e.dflt) (fun info z g1 hz g2 hz' => ?_) (by rw [List.length_replicate]; exact hq1) k
            obtain ⟨f1, ej, f2, f3⟩ := elemTy_under hT he
            obtain ⟨info', g1', g2', g3', _, g5, g6⟩ := (hT _ _ f2).info
            rw [g1] at g1'
            simp only [Option.some.injEq] at g1'
            subst g1'
            rw [f3] at g6
            have hfit : q.toNat * info.bytes ≤ 140737488355328 := by
              have a1 : q.toNat ≤ lim e := hq1
              have a2 : lim e * (24 * e.lv) ≤ 140737488355328 := Nat.div_mul_le_self _ _
              have a3 : q.toNat * info.bytes ≤ lim e * (24 * e.lv) := Nat.mul_le_mul a1 (by omega)
              omega
            refine ⟨(Builtin.zeroCells z.cells q.toNat).toList, by rw [Array.length_toList, List.length_replicate, size_zeroCells, show z.cells.size = e.lv by rw [← Array.length_toList, hz', zeros_length]], fun i hi => ?_, ?_⟩
            · rw [List.length_replicate] at hi
              simp only [List.getElem_replicate]
              refine rep_zeros e _ _ (fun j v hv => ?_)
              have hj : j < e.lv := by rw [← zeros_length e]; exact (List.getElem?_eq_some_iff.1 hv).1
              rw [zeroCells_at hz' hi hj]
              exact hv
            · rw [ey, List.length_replicate, ← hqe]
              simp only [Int.toNat_natCast]
              exact append_run_z f1 hu g1 hz g2 hz' _ _ hfit (Nat.le_trans hq1 hlim0)
          · simp at h
      · simp at h
  · simp at h

/-! ### the room of a nil slice -/
def evCapN (T : Tab) (n : Nat) (s : St) (o : Oper) : Option (Nat × AV) :=
  match o.guard, o.dst, o.op with
  | none, some d, .call { callee := .builtin .cap, args, argTypes } => cond (Nat.blt d n) (match args.toList, argTypes.toList with
    | [x], [t] => match elemTy T t, opnd s.sl x with
      | some _, some (.lf .nil) => some (d, .lf (.v (.int .i64) (0 : Int)))
      | _, _ => none
    | _, _ => none) none
  | _, _, _ => none

theorem VO.capN {o : Oper} {d : Nat} {v : AV} (hT : TabOk P T) (h : evCapN T n s o = some (d, v)) (k : VO P n w0 E0 ops Q rest ⟨(d, v) :: s.sl, s.H⟩) : VO P n w0 E0 ops Q (o :: rest) s := by
  intro a w hs
  obtain ⟨E, μ, hA⟩ := hs.at
  unfold evCapN at h
  split at h
  · rename_i d' args argTypes hg hd ho
    cases hb : Nat.blt d' n with
    | false => rw [hb] at h; simp at h
    | true =>
      rw [hb] at h
      simp only [cond_true] at h
      have hdn : d' < n := by simpa [Nat.blt_eq] using hb
      split at h
      · rename_i x t hargs hts
        split at h
        · rename_i te he hx
          simp only [Option.some.injEq, Prod.mk.injEq] at h
          obtain ⟨rfl, rfl⟩ := h
          have ha1 : args = #[x] := by rw [← Array.toArray_toList (xs := args), hargs]
          have ha2 : argTypes = #[t] := by rw [← Array.toArray_toList (xs := argTypes), hts]
          obtain ⟨ti, e⟩ := te
          obtain ⟨f1, _⟩ := elemTy_under hT he
          obtain ⟨ad, hxx⟩ := hA.opnd hx
          refine wpList_value (y := .int .i64 0) (w' := w) hg ?_ ?_
          · simp only [execOp, ho, resolve, ha1, ha2, Sem.run_bind, Sem.run_pure, Result.andThen_ok, invoke, builtin]
            simp only [List.map_toArray, List.map_cons, List.map_nil, hxx]
            simp [Builtin.cap_, run_underlying f1, goInt]
          · rw [hd]
            refine k _ _ (hA.put hdn hA.mr (Ext.refl w E) (fun b hb => ⟨hb, rfl⟩) (KpH.refl μ s.H) ?_).rel
            simp [AR, LR, Rep, at0]
        · simp at h
      · simp at h
  · simp at h

/-- A nil slice, cut to nothing. -/
def evCutN (T : Tab) (n : Nat) (s : St) (o : Oper) : Option (Nat × Prop × AV) :=
  match o.guard, o.dst, o.op with
  | none, some d, .slice t x none (some hi) none => cond (Nat.blt d n) (match elemTy T t, opnd s.sl x, opnd s.sl hi with
    | some _, some (.lf .nil), some (.lf (.v (.int _) q)) => some (d, (q = (0 : Int)), .lf .nil)
    | _, _, _ => none) none
  | _, _, _ => none

theorem VO.cutN {o : Oper} {d : Nat} {φ : Prop} {v : AV} (hT : TabOk P T) (h : evCutN T n s o = some (d, φ, v)) (hφ : φ) (k : VO P n w0 E0 ops Q rest ⟨(d, v) :: s.sl, s.H⟩) : VO P n w0 E0 ops Q (o :: rest) s := by
  intro a w hs
  obtain ⟨E, μ, hA⟩ := hs.at
  unfold evCutN at h
  split at h
  · rename_i d' t x hi hg hd ho
    cases hb : Nat.blt d' n with
    | false => rw [hb] at h; simp at h
    | true =>
      rw [hb] at h
      simp only [cond_true] at h
      have hdn : d' < n := by simpa [Nat.blt_eq] using hb
      split at h
      · rename_i te kk q he hx hq
        simp only [Option.some.injEq, Prod.mk.injEq] at h
        obtain ⟨rfl, rfl, rfl⟩ := h
        obtain ⟨ti, e⟩ := te
        obtain ⟨f1, ej, f2, f3⟩ := elemTy_under hT he
        obtain ⟨ad, hxx⟩ := hA.opnd hx
        have hqq := hA.opnd hq
        simp only [AR, LR_int] at hqq
        subst hφ
        refine wpList_value (y := .slice ad 0 0) (w' := w) hg ?_ ?_
        · have := slice_run (P := P) (T := T) hT f1 f2 (a := ad) (len := 0) (cap := 0) (lo := none) (hi := some (.int kk 0)) (l := 0) (h := 0) (Nat.le_refl 0) (.inl ⟨rfl, rfl⟩) (.inr ⟨kk, 0, rfl, Int.le_refl 0, rfl⟩) (Nat.le_refl 0) (Nat.le_refl 0) w
          simp only [if_true, Nat.sub_self] at this
          simp only [execOp, ho, hxx, Option.map_none, Option.map_some, hqq, Sem.run_bind, this, Result.andThen_ok, Sem.run_pure]
        · rw [hd]
          exact k _ _ (hA.put (v := .lf .nil) (y := .slice ad 0 0) hdn hA.mr (Ext.refl w E) (fun b hb => ⟨hb, rfl⟩) (KpH.refl μ s.H) (show ∃ a', Value.slice ad 0 0 = .slice a' 0 0 from ⟨ad, rfl⟩)).rel
      · simp at h
  · simp at h

/-! ### a row of bytes that was told as a string's -/
def evMark (T : Tab) (n : Nat) (s : St) (o : Oper) : Option (Nat × Prop × AV × Heap) :=
  match o.guard, o.dst, o.op with
  | none, some d, .convert a b x => cond (Nat.blt d n && Nat.beq a b && isBytes T a) (match opnd s.sl x with
    | some (.lf (.hd id ver none)) => match s.H[id]? with
      | some (some (.arr cur (.int .u8) xs m)) => cond (Nat.beq ver cur) (some (d, (0 < xs.length), .lf (.v (.sl (.int .u8)) xs), s.H.set id none)) none
      | _ => none
    | _ => none) none
  | _, _, _ => none

theorem freeze_at {b k : Nat} {arr : Array Value} {ty : TypeId} (h : w.heap[b]? = some (.cells arr ty (0, 0))) : (∀ c, c ≠ b → (w.freeze ⟨b, k, none⟩ 1).heap[c]? = w.heap[c]?) ∧ (∃ fr, (w.freeze ⟨b, k, none⟩ 1).heap[b]? = some (.cells arr ty fr)) ∧ (w.freeze ⟨b, k, none⟩ 1).heap.size = w.heap.size := by
  simp only [World.freeze]
  refine ⟨fun c hc => ?_, ?_, ?_⟩
  · simp [Array.getElem?_modify, Ne.symm hc]
  · simp [Array.getElem?_modify, h]
  · simp

theorem VO.mark {o : Oper} {d : Nat} {φ : Prop} {v : AV} {H' : Heap} (hT : TabOk P T) (h : evMark T n s o = some (d, φ, v, H')) (hφ : φ) (k : VO P n w0 E0 ops Q rest ⟨(d, v) :: s.sl, H'⟩) : VO P n w0 E0 ops Q (o :: rest) s := by
  intro a w hs
  obtain ⟨E, μ, hA⟩ := hs.at
  unfold evMark at h
  split at h
  · rename_i d' ta tb x hg hd ho
    cases hb : (Nat.blt d' n && Nat.beq ta tb && isBytes T ta) with
    | false => rw [hb] at h; simp at h
    | true =>
      rw [hb] at h
      simp only [cond_true] at h
      simp only [Bool.and_eq_true] at hb
      obtain ⟨⟨hb1, hb2⟩, hb3⟩ := hb
      have hdn : d' < n := by simpa [Nat.blt_eq] using hb1
      have hab := Nat.eq_of_beq_eq_true hb2
      subst hab
      obtain ⟨e, u1, u2⟩ := isBytes_under hT hb3
      split at h
      · rename_i id ver hx
        split at h
        · rename_i cur xs m hH
          cases hc : Nat.beq ver cur with
          | false => rw [hc] at h; simp at h
          | true =>
            rw [hc] at h
            have hv := Nat.eq_of_beq_eq_true hc
            subst hv
            simp only [cond_true, Option.some.injEq, Prod.mk.injEq] at h
            obtain ⟨rfl, rfl, rfl, rfl⟩ := h
            have hxx := hA.opnd hx
            simp only [AR, LR, hH] at hxx
            have h3 := hxx.2.2 trivial
            simp only [HdR] at h3
            obtain ⟨hm, hrow⟩ := hA.mr.arr hH
            rcases hrow with ⟨rfl, ad0, h0⟩ | ⟨g, c', arr, ty, g1, g2, g3, g4, g5, g6⟩
            · simp at hφ
            · obtain ⟨f1, ⟨fr, f2⟩, f3⟩ := freeze_at (k := arr.size) g3
              have hne : ∀ c, E.S c → c ≠ g := fun c hc e => by subst e; have := hA.mr.apart c hc; rw [g5] at this; simp at this
              have hidlt : id < s.H.length := (List.getElem?_eq_some_iff.1 hH).1
              refine wpList_value (y := .slice (some ⟨g, 0, none⟩) xs.length c') (w' := w.freeze ⟨g, arr.size, none⟩ 1) hg ?_ ?_
              · simp only [execOp, ho, h3, g1]
                simp [Go.convert, run_underlying u1, run_underlying u2, markStringish, World.shape?, g3]
              · rw [hd]
                have hS : ∀ c, E.S c → (⟨fun c => E.S c ∨ c = g, fun c => if c = g then none else E.κ c⟩ : Env).S c ∧ (w.freeze ⟨g, arr.size, none⟩ 1).heap[c]? = w.heap[c]? := fun c hc => ⟨.inl hc, f1 c (hne c hc)⟩
                have hK : KpH μ μ s.H (s.H.set id none) := KpH.set hH trivial
                have hM : MR (w.freeze ⟨g, arr.size, none⟩ 1) ⟨fun c => E.S c ∨ c = g, fun c => if c = g then none else E.κ c⟩ μ (s.H.set id none) 0 := by
                  refine MR.step hA.mr (fun c hc => ?_) (fun c hc => ?_) (fun c hc => ?_) (fun c r q hq => ?_) hS hK (fun i blk hi => ?_)
                  · rcases hc with hc | hc
                    · simp only [if_neg (hne c hc)]; exact hA.mr.apart c hc
                    · simp [hc]
                  · rw [f3]
                    rcases hc with hc | hc
                    · exact hA.mr.ltS c hc
                    · rw [hc]; exact hA.mr.ltκ g (by simp [g5])
                  · rw [f3]
                    simp only at hc
                    split at hc
                    · simp at hc
                    · exact hA.mr.ltκ c hc
                  · simp only at hq
                    split at hq
                    · simp at hq
                    · simpa using hA.mr.roots c r q hq
                  · have hii : i ≠ id := by
                      intro e
                      subst e
                      simp [hidlt] at hi
                    rw [List.getElem?_set_ne (Ne.symm hii)] at hi
                    refine .inl ⟨hi, rfl, fun c q hq => ?_⟩
                    have hcg : c ≠ g := by
                      intro e
                      subst e
                      rw [g5] at hq
                      simp only [Option.some.injEq, Prod.mk.injEq, Root.id.injEq] at hq
                      exact hii hq.1.symm
                    exact ⟨by simp only [if_neg hcg]; exact hq, f1 c hcg⟩
                refine k _ _ (hA.put hdn hM ⟨rfl, rfl, rfl, by rw [f3]; exact Nat.le_refl _, fun c hc hn => f1 c (fun e => by subst e; rw [g5] at hn; simp at hn), fun c hc => .inl hc, fun c hc => ?_, fun c hc => ?_⟩ hS hK ?_).rel
                · rcases hc with hc | hc
                  · exact .inl hc
                  · exact .inr (.inl (by rw [hc, g5]; simp))
                · simp only at hc
                  split at hc
                  · simp at hc
                  · exact .inl hc
                · refine ⟨_, rfl, .inl ⟨rfl, .inr ⟨g, 0, c', rfl, g2, .inr rfl, fun i hi => ?_⟩⟩⟩
                  have := g6 i hi
                  simp only [Rep, Ty.lv, Nat.mul_one, Nat.add_zero, cellAt, World.cell?, g3, f2, Option.isSome_none, Bool.false_eq_true, if_false, Nat.zero_add] at this ⊢
                  exact this
        · simp at h
      · simp at h
  · simp at h

/-! ### rows are frozen in a region that draws its order -/
theorem Lf.unfrz {id : Nat} {H1 : Heap} (h1 : H1[id]? = some none) {a : Lf} {y : Value} (h : LR w E μ H1 (a.frz H id) y) : LR w E μ H1 a y := by
  cases a with
  | hd i ver rng =>
    simp only [Lf.frz] at h
    cases hb : Nat.beq i id with
    | false => rw [hb] at h; exact h
    | true =>
      have := Nat.eq_of_beq_eq_true hb
      subst this
      exact ⟨LR_one h, by simp [h1]⟩
  | v t x => exact h
  | nil => exact h
  | ptr i ver a b => exact h
  | fp t x j => exact h
  | any => exact h

theorem All2.unmap {α β γ : Type} {R : α → β → Prop} {R' : γ → β → Prop} {f : γ → α} (h : ∀ x y, R (f x) y → R' x y) : ∀ {xs : List γ} {ys : List β}, All2 R (xs.map f) ys → All2 R' xs ys
  | [], [], .nil => .nil
  | x :: xs, y :: ys, .cons h1 h2 => .cons (h _ _ h1) (All2.unmap h h2)

theorem SV.unfrz {id : Nat} {H1 : Heap} (h1 : H1[id]? = some none) {a : SV} {y : Value} (h : SR w E μ H1 (a.frz H id) y) : SR w E μ H1 a y := by
  cases a with
  | lf a => exact Lf.unfrz (a := a) h1 h
  | agg l => obtain ⟨arr, h2, h3⟩ := h; exact ⟨arr, h2, All2.unmap (f := Lf.frz H id) (fun _ _ h => Lf.unfrz h1 h) h3⟩

theorem AV.unfrz {id : Nat} {H1 : Heap} (h1 : H1[id]? = some none) {a : AV} {y : Value} (h : AR w E μ H1 (a.frz H id) y) : AR w E μ H1 a y := by
  cases a with
  | lf a => exact Lf.unfrz (a := a) h1 h
  | agg l => obtain ⟨arr, h2, h3⟩ := h; exact ⟨arr, h2, All2.unmap (f := Lf.frz H id) (fun _ _ h => Lf.unfrz h1 h) h3⟩
  | tup l => obtain ⟨arr, h2, h3⟩ := h; exact ⟨arr, h2, All2.unmap (f := SV.frz H id) (fun _ _ h => SV.unfrz h1 h) h3⟩
  | clo f l => obtain ⟨arr, h2, h3⟩ := h; exact ⟨arr, h2, All2.unmap (f := SV.frz H id) (fun _ _ h => SV.unfrz h1 h) h3⟩
  | unk => exact h

def frzV (view : List (Nat × AV)) (H : Heap) (id : Nat) : List (Nat × AV) := view.map fun x => (x.1, x.2.frz H id)
def frzHp (H : Heap) (id : Nat) : Heap := (H.map fun b => b.map (Blk.frz H id)).set id none

theorem Stp.frz (id : Nat) {view : List (Nat × AV)} {o : Oper} {e : Option (Nat × AV)} (hid : isArr H id = true) (h : Stp P n w0 E0 ops Q o (frzV view H id) (frzHp H id) e H') (hn : H'[id]? = some none) : Stp P n w0 E0 ops Q o view H e H' := by
  intro sl hle a w hs
  have hs' : SRel n w0 E0 ⟨frzV sl H id, frzHp H id⟩ a w := Gh.frz id (s := ⟨sl, H⟩) hid a w hs
  have hle' : Le (frzV view H id) (frzV sl H id) := by
    intro k v hv
    simp only [frzV, look_map] at hv ⊢
    obtain ⟨u, h1, rfl⟩ := Option.map_eq_some_iff.1 hv
    rw [hle k u h1, Option.map_some]
  have next : ∀ a' w', (∃ s', SRel n w0 E0 s' a' w' ∧ s' = ⟨putE e (frzV sl H id), H'⟩) → ∃ s', SRel n w0 E0 s' a' w' ∧ s' = ⟨putE e sl, H'⟩ := by
    rintro a' w' ⟨s', h1, h2⟩
    subst h2
    refine ⟨⟨putE e sl, H'⟩, ⟨h1.size, h1.defers, h1.apart, ?_⟩, rfl⟩
    obtain ⟨E, μ, m1, m2, m3⟩ := h1.mem
    refine ⟨E, μ, m1, m2, fun k v hv => ?_⟩
    have old : ∀ k v, look sl k = some v → look (frzV sl H id) k = some (v.frz H id) := fun k v hv => by simp only [frzV, look_map, hv, Option.map_some]
    cases e with
    | none =>
      obtain ⟨y, h3, h4⟩ := m3 k _ (old k v hv)
      exact ⟨y, h3, AV.unfrz hn h4⟩
    | some x =>
      obtain ⟨j, u⟩ := x
      simp only [putE, look] at hv
      cases hb : Nat.beq j k with
      | true =>
        rw [hb] at hv
        exact m3 k v (by simp only [putE, look, hb]; exact hv)
      | false =>
        rw [hb] at hv
        obtain ⟨y, h3, h4⟩ := m3 k (v.frz H id) (by simp only [putE, look, hb]; exact old k v hv)
        exact ⟨y, h3, AV.unfrz hn h4⟩
  have hvo := h _ hle' a w hs'
  unfold wpList at hvo ⊢
  by_cases hwt : Region.wanted o (yielded ops a.tmps) = true
  · rw [if_pos hwt] at hvo ⊢
    rcases hvo with hvo | ⟨hvo1, a1, w1, s1, h1, h2⟩
    · refine .inl (Oper.wp_mono (fun a' w' hh => next a' w' hh) (wp_swap ?_ hvo))
      rintro e a' w' hne ⟨s1, h1, h2⟩
      refine ⟨s1, h1, ?_⟩
      cases e with
      | normal => exact absurd rfl hne
      | exit id => exact h2
      | goto l => exact h2
      | ret => exact h2
      | panic c => exact h2
      | outgrown => exact h2
    · exact .inr ⟨hvo1, a1, w1, s1, h1, h2⟩
  · rw [if_neg hwt] at hvo ⊢
    exact next _ _ hvo
end
end Go.Proofs.Ytgpddckjpokclaa.Vc
