/- A calculus of values over the model, part 30: the step over a call that is lent a row's slice. It speaks of any program. -/
import Derived.Test.YtgpddckjpokclaaVc29
namespace Go.Proofs.Ytgpddckjpokclaa.Vc
open Go Go.RowKit
set_option linter.unusedVariables false
set_option linter.unusedSimpArgs false

/-- Arguments that name nothing of ours. -/
def flatArgs (sl : List (Nat × AV)) : List Operand → Option (List AV)
  | [] => some []
  | x :: xs => match opnd sl x, flatArgs sl xs with
    | some (.lf (.v t z)), some l => cond t.flat (some (.lf (.v t z) :: l)) none
    | _, _ => none

/-- A cell is read, a slot moved, a function called with both. -/
def evIn (n : Nat) (s : St) (o1 o2 o3 : Oper) : Option (TypeId × Nat × Nat × Nat × Nat × Nat × Nat × Nat × AV × FuncId × List AV) :=
  match o1.guard, o1.dst, o1.op with
  | none, some d1, .load t ad => match opnd s.sl ad with
    | some (.lf (.ptr id ver i j)) => match o2.guard, o2.dst, o2.op with
      | none, some d2, .move x2 => match opnd ((d1, .lf .any) :: s.sl) x2 with
        | some v2 => match o3.guard, o3.dst, o3.op with
          | none, some d3, .call c => match evCallee ⟨(d2, v2) :: (d1, .lf .any) :: s.sl, s.H⟩ c, c.args.toList with
            | some (f, []), .tmp k :: xs => cond (Nat.beq k d1 && !Nat.beq d2 d1 && Nat.blt d1 n && Nat.blt d2 n && Nat.blt d3 n)
                ((flatArgs ((d2, v2) :: (d1, .lf .any) :: s.sl) xs).map fun l => (t, d1, d2, d3, id, ver, i, j, v2, f, l)) none
            | _, _ => none
          | _, _, _ => none
        | none => none
      | _, _, _ => none
    | _ => none
  | _, _, _ => none

def tyOf (T : Tab) (t : TypeId) : Option Ty := match T t with
  | some i => some i.ty
  | none => none

section
variable {P : Program} {T : Tab} {n : Nat} {w0 : World} {E0 : Env0} {s s' s'' : St} {ops : Array Oper} {Q : Exit → St → Prop} {rest : List Oper}
variable {w w' : World} {E E' : Env} {μ μ' : Nat → Value} {H H' : Heap}

theorem flatArgs_run {a : Act} (hA : At n w0 E0 s a w E μ) : ∀ {xs : List Operand} {l : List AV}, flatArgs s.sl xs = some l → All2 (AR w E' μ' H') l (xs.map a.eval)
  | [], l, h => by
    simp only [flatArgs, Option.some.injEq] at h
    subst h
    exact .nil
  | x :: xs, l, h => by
    simp only [flatArgs] at h
    split at h
    · rename_i t z l' h1 h2
      cases hf : t.flat with
      | false => rw [hf] at h; simp at h
      | true =>
        rw [hf] at h
        simp only [cond_true, Option.some.injEq] at h
        subst h
        exact .cons (Rep.flat hf (hA.opnd h1)) (flatArgs_run hA h2)
    · simp at h

theorem lendE_none {b0 k0 : Nat} {D : Nat → Prop} (b : Nat) (h : E.κ b = none) : (lendE E b0 k0 D).κ b = none := by
  simp only [lendE, h, Option.map_none, ite_self]

theorem VO.lendIn (hT : TabOk P T) {o1 o2 o3 : Oper} {t : TypeId} {d1 d2 d3 id cur i j : Nat} {v2 : AV} {f : FuncId} {l : List AV} (h : evIn n s o1 o2 o3 = some (t, d1, d2, d3, id, cur, i, j, v2, f, l)) {e t' : Ty} (htt : tyOf T t = some (.sl t'))
    {xs : List e.den} {ys ys' : List t'.den} {x' : e.den} {rs : List RC} {v1 : Nat} (hH : s.H[id]? = some (some (.arr cur e xs .dp))) (hget : (leafs e (xs.getD i e.dflt) .fz)[j]? = some (.v (.sl t') ys)) (hset : setLf e (xs.getD i e.dflt) j (.v (.sl t') ys') .fz = some x')
    (hi : i < xs.length) (hc : ConM P f [some (.arr 0 t' ys .dp)] (.lf (.hd 0 0 none) :: l) rs [some (.arr v1 t' ys' .dp)]) (hrs : cntC rs = 0)
    (k : VO P n w0 E0 ops Q rest ⟨(d3, resA 0 rs) :: (d2, v2) :: (d1, .lf .any) :: s.sl, s.H.set id (some (.arr cur e (xs.set i x') .dp))⟩) (ht : Tabs P w0 E0.toEnv := by assumption) : VO P n w0 E0 ops Q (o1 :: o2 :: o3 :: rest) s := by
  obtain ⟨ti, hti, hty⟩ : ∃ ti, T t = some ti ∧ ti.ty = .sl t' := by
    unfold tyOf at htt
    split at htt
    · rename_i i h1
      exact ⟨i, h1, by simpa using htt⟩
    · simp at htt
  intro a w hs
  obtain ⟨E, μ, hA⟩ := hs.at
  unfold evIn at h
  split at h
  · rename_i d1' t0 ad g1 dd1 ho1
    split at h
    · rename_i id' ver' i' j' had
      split at h
      · rename_i d2' x2 g2 dd2 ho2
        split at h
        · rename_i v2' hx2
          split at h
          · rename_i d3' c g3 dd3 ho3
            split at h
            · rename_i f' k' xs' hcal hargs
              cases hb : (Nat.beq k' d1' && !Nat.beq d2' d1' && Nat.blt d1' n && Nat.blt d2' n && Nat.blt d3' n) with
              | false => rw [hb] at h; simp at h
              | true =>
                rw [hb] at h
                simp only [cond_true, Option.map_eq_some_iff, Prod.mk.injEq] at h
                obtain ⟨l', hfl, rfl, rfl, rfl, rfl, rfl, rfl, rfl, rfl, rfl, rfl, rfl⟩ := h
                simp only [Bool.and_eq_true, Bool.not_eq_true'] at hb
                obtain ⟨⟨⟨⟨hb1, hb2⟩, hb3⟩, hb4⟩, hb5⟩ := hb
                have hb1 := Nat.eq_of_beq_eq_true hb1
                have hn1 : d1' < n := by simpa [Nat.blt_eq] using hb3
                have hn2 : d2' < n := by simpa [Nat.blt_eq] using hb4
                have hn3 : d3' < n := by simpa [Nat.blt_eq] using hb5
                have hne : d2' ≠ d1' := fun e => by subst e; simp at hb2
                subst hb1
                -- the cell
                have hp := (hA.opnd had).2
                rw [hH] at hp
                obtain ⟨b0, nn, cc, m1, m2⟩ := hp.2 rfl
                obtain ⟨_, hrow⟩ := hA.mr.arr hH
                rcases hrow with ⟨rfl, _⟩ | ⟨b0', c0, arr0, ty0, f1, f2, f3, f4, f5, f6⟩
                · simp at hi
                rw [m1] at f1
                simp only [Value.slice.injEq, Option.some.injEq, Addr.mk.injEq, and_true] at f1
                obtain ⟨rfl, rfl, rfl⟩ := f1
                have hx : xs.getD i' e.dflt = xs[i'] := by simp [List.getD, hi]
                rw [hx] at hget hset
                have hj : j' < e.lv := by
                  have := (List.getElem?_eq_some_iff.1 hget).1
                  rwa [leafs_length] at this
                have hsub := leaf_sl e xs[i'] j' t' ys _ _ hget (f6 i' hi)
                obtain ⟨y, hy⟩ : ∃ y, cellAt w b0 (i' * e.lv + j') = some y := by
                  obtain ⟨v, hv, _⟩ := hsub
                  exact ⟨v, by simpa using hv⟩
                have hone : y.oneCell' = true := rep_sl_one hsub (v := y) (by simpa using hy)
                obtain ⟨D, hD, hMl⟩ := sub_ex hA.mr hsub (b0 := b0) (k0 := i' * e.lv + j') (y := y) (by simp) f5 (by simpa using hy)
                have hld : (loadVar t0 ⟨b0, i' * e.lv + j', none⟩).run P w = .ok y w := by
                  have := hT.loadVar hti w b0 (i' * e.lv + j') [y] (by rw [hty]; rfl) (fun q v hq => by
                    cases q with
                    | zero => simp only [List.getElem?_cons_zero, Option.some.injEq] at hq; subst hq; exact hy
                    | succ q => simp at hq)
                  rw [hty] at this
                  simpa [Ty.isPair] using this
                refine wpList_value (y := y) (w' := w) g1 (by simp only [execOp, ho1, m2, Instr.loadAt, Instr.sureAddr, Sem.run_bind, Sem.run_pure, Result.andThen_ok, hld]) ?_
                rw [dd1]
                have hA1 := hA.put (v := .lf .any) (y := y) hn1 hA.mr (Ext.refl w E) (fun b hb => ⟨hb, rfl⟩) (KpH.refl μ s.H) hone
                refine wpList_value (y := (a.put (some k') y).eval x2) (w' := w) g2 (by simp [execOp, ho2]) ?_
                rw [dd2]
                have hA2 := hA1.put (v := v2') (y := (a.put (some k') y).eval x2) hn2 hA.mr (Ext.refl w E) (fun b hb => ⟨hb, rfl⟩) (KpH.refl μ s.H) (hA1.opnd hx2)
                generalize hz : (a.put (some k') y).eval x2 = z at hA2 ⊢
                have hev : ((a.put (some k') y).put (some d2') z).eval (.tmp k') = y := by
                  simp [Act.eval, Act.put, Array.getD_eq_getD_getElem?, Array.getElem?_setIfInBounds, hne, hA.size.1, hn1]
                generalize ((a.put (some k') y).put (some d2') z) = a2 at hA2 hev ⊢
                obtain ⟨x, arr, hx1, hx2', hx3⟩ : ∃ x arr, c.callee = .value x ∧ a2.eval x = .func (.func f') #[] arr ∧ All2 (SR w E μ s.H) [] arr.toList := by
                  unfold evCallee at hcal
                  split at hcal
                  · rename_i x hx
                    split at hcal
                    · rename_i f2 l2 hv
                      simp only [Option.some.injEq, Prod.mk.injEq] at hcal
                      obtain ⟨rfl, rfl⟩ := hcal
                      obtain ⟨arr, h1, h2⟩ := hA2.opnd hv
                      exact ⟨x, arr, hx, h1, h2⟩
                    · simp at hcal
                  · simp at hcal
                have harr : arr = #[] := by
                  have := hx3.length
                  simpa using this.symm
                subst harr
                have hal : All2 (AR w (lendE E b0 (i' * e.lv + j') D) (fun _ => y) [some (.arr 0 t' ys .dp)]) (.lf (.hd 0 0 none) :: l') (c.args.map a2.eval ++ #[]).toList := by
                  rw [Array.append_empty, Array.toList_map, hargs, List.map_cons, hev]
                  refine .cons ?_ (flatArgs_run hA2 hfl)
                  exact ⟨hone, Nat.le_refl _, fun _ => rfl⟩
                have hcall := hc.calls w _ _ (c.args.map a2.eval ++ #[]) hMl ((ht.ext hA2.ext).env lendE_none) hal
                refine wpList_plain g3 fun K hK => ?_
                have hrun : (execOp a2.eval o3).run P w = .ok (.enter f' (c.args.map a2.eval ++ #[])) w := by
                  simp only [execOp, ho3, resolve, hx1, hx2', Deferred.ofValue, Sem.run_bind, Sem.run_pure, Result.andThen_ok, invoke, Array.empty_append, hc.enters]
                simp only [Oper.wp, hrun, Oper.upon_enter]
                refine hcall.mono ?_
                rintro e' w' ⟨y', E', μ', rfl, hX, hM1, hμ, hR⟩
                simp only
                refine hK _ _ ?_
                rw [hrs] at hM1
                obtain ⟨r1, r2, r3, r4⟩ := give_back hA.mr hH hi m1 f2 f3 f4 f5 f6 hj hget hset hy hD hX hM1 (hμ 0 _ rfl)
                refine resA_of (base := 0) hR fun zs hRs hA3 => ?_
                rw [dd3]
                refine k _ _ (hA2.put hn3 r1 r2 r3 r4 (hA3 _ _ _ ?_)).rel
                refine RCs_SR (sel := false) (E := E') (E' := giveE E E' id' b0 (i' * e.lv + j') D) (fun _ b hb => hb) hRs (fun e => by simp at e) (fun q b hq => ?_)
                have := (List.getElem?_eq_some_iff.1 hq).1
                rw [ownsC_length, hrs] at this
                omega
            · simp at h
          · simp at h
        · simp at h
      · simp at h
    · simp at h
  · simp at h
end
end Go.Proofs.Ytgpddckjpokclaa.Vc
