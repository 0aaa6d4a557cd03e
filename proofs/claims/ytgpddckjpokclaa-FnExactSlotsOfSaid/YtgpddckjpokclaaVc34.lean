/- A calculus of values over the model, part 34: a whole row of ours is read and handed to a function that reads it. It speaks of any program. -/
import Derived.Test.YtgpddckjpokclaaVc33
namespace Go.Proofs.Ytgpddckjpokclaa.Vc
open Go Go.RowKit
set_option linter.unusedVariables false
set_option linter.unusedSimpArgs false

/-- A row is read, a function called with it. -/
def evPk (n : Nat) (s : St) (v1 : AV) (o1 o2 : Oper) : Option (TypeId × Nat × Nat × Nat × Nat × Nat × FuncId × List AV) :=
  match o1.guard, o1.dst, o1.op with
  | none, some d1, .load t ad => match opnd s.sl ad with
    | some (.lf (.ptr id ver i 0)) => match o2.guard, o2.dst, o2.op with
      | none, some d2, .call c => match evCallee ⟨(d1, v1) :: s.sl, s.H⟩ c, c.args.toList with
        | some (f, []), .tmp k :: xs => cond (Nat.beq k d1 && Nat.blt d1 n && Nat.blt d2 n)
            ((flatArgs ((d1, v1) :: s.sl) xs).map fun l => (t, d1, d2, id, ver, i, f, l)) none
        | _, _ => none
      | _, _, _ => none
    | _ => none
  | _, _, _ => none

section
variable {P : Program} {T : Tab} {n : Nat} {w0 : World} {E0 : Env0} {s s' s'' : St} {ops : Array Oper} {Q : Exit → St → Prop} {rest : List Oper}
variable {w w' : World} {E E' : Env} {μ μ' : Nat → Value} {H H' : Heap}

theorem VO.peek (hT : TabOk P T) {o1 o2 : Oper} {t : TypeId} {d1 d2 id cur i : Nat} {f : FuncId} {l : List AV} {e : Ty} {xs : List e.den} (h : evPk n s (.agg (leafs e (xs.getD i e.dflt) .dp)) o1 o2 = some (t, d1, d2, id, cur, i, f, l))
    (htt : tyOf T t = some e) (hp : e.isPair = true) (hH : s.H[id]? = some (some (.arr cur e xs .dp))) (hi : i < xs.length) {rs : List RC} {as : List Lf} (has : leafs e (xs.getD i e.dflt) .fz = as) (hc : Con P f (.agg as :: l) rs) (hsel : selfish rs = true)
    (k : VO P n w0 E0 ops Q rest ⟨(d2, resA s.H.length rs) :: (d1, .agg (leafs e (xs.getD i e.dflt) .dp)) :: s.sl, s.H ++ ownsC rs⟩) (ht : Tabs P w0 E0.toEnv := by assumption) : VO P n w0 E0 ops Q (o1 :: o2 :: rest) s := by
  subst has
  obtain ⟨ti, hti, hty⟩ : ∃ ti, T t = some ti ∧ ti.ty = e := by
    unfold tyOf at htt
    split at htt
    · rename_i i h1
      exact ⟨i, h1, by simpa using htt⟩
    · simp at htt
  intro a w hs
  obtain ⟨E, μ, hA⟩ := hs.at
  unfold evPk at h
  split at h
  · rename_i d1' t0 ad g1 dd1 ho1
    split at h
    · rename_i id' ver' i' had
      split at h
      · rename_i d2' c g2 dd2 ho2
        split at h
        · rename_i f' k' xs' hcal hargs
          cases hb : (Nat.beq k' d1' && Nat.blt d1' n && Nat.blt d2' n) with
          | false => rw [hb] at h; simp at h
          | true =>
            rw [hb] at h
            simp only [cond_true, Option.map_eq_some_iff, Prod.mk.injEq] at h
            obtain ⟨l', hfl, rfl, rfl, rfl, rfl, rfl, rfl, rfl, rfl⟩ := h
            simp only [Bool.and_eq_true] at hb
            obtain ⟨⟨hb1, hb2⟩, hb3⟩ := hb
            have hb1 := Nat.eq_of_beq_eq_true hb1
            have hn1 : d1' < n := by simpa [Nat.blt_eq] using hb2
            have hn2 : d2' < n := by simpa [Nat.blt_eq] using hb3
            subst hb1
            have hq := (hA.opnd had).2
            rw [hH] at hq
            obtain ⟨b0, nn, cc, m1, m2⟩ := hq.2 rfl
            obtain ⟨_, hrow⟩ := hA.mr.arr hH
            rcases hrow with ⟨rfl, _⟩ | ⟨b0', c0, arr0, ty0, f1, f2, f3, f4, f5, f6⟩
            · simp at hi
            rw [m1] at f1
            simp only [Value.slice.injEq, Option.some.injEq, Addr.mk.injEq, and_true] at f1
            obtain ⟨rfl, rfl, rfl⟩ := f1
            have hx : xs.getD i' e.dflt = xs[i'] := by simp [List.getD, hi]
            rw [hx] at hfl hc k hcal
            have hrow := f6 i' hi
            -- the cells
            have hcell : ∀ j, j < e.lv → ∃ y, cellAt w b0 (i' * e.lv + j) = some y := by
              intro j hj
              have hlt : j < (leafs e xs[i'] .dp).length := by rw [leafs_length]; exact hj
              obtain ⟨z, h1, _⟩ := leafs_at (μ := μ) (H := s.H) e xs[i'] .dp _ _ hrow j _ (List.getElem?_eq_getElem hlt)
              exact ⟨z, h1⟩
            obtain ⟨cs, hcl, hcs⟩ : ∃ cs : List Value, cs.length = e.lv ∧ ∀ (j : Nat), j < e.lv → cs[j]? = cellAt w b0 (i' * e.lv + j) := by
              refine ⟨(List.range e.lv).map fun j => (cellAt w b0 (i' * e.lv + j)).getD undef, by simp, fun j hj => ?_⟩
              obtain ⟨y, hy⟩ := hcell j hj
              simp [hj, hy]
            have hld : (loadVar t0 ⟨b0, i' * e.lv, none⟩).run P w = .ok (.agg cs.toArray) w := by
              have := hT.loadVar hti w b0 (i' * e.lv) cs (by rw [hty]; exact hcl) (fun q v hq => by
                have hlt := (List.getElem?_eq_some_iff.1 hq).1
                rw [hcs q (by omega)] at hq
                exact hq)
              rw [hty, hp] at this
              simpa using this
            have hv1 : AR w E μ s.H (.agg (leafs e xs[i'] .dp)) (.agg cs.toArray) := by
              refine ⟨_, rfl, ?_⟩
              refine All2.of_get (by rw [leafs_length]; simpa using hcl.symm) fun j z y hz hy => ?_
              have hlt := (List.getElem?_eq_some_iff.1 hz).1
              rw [leafs_length] at hlt
              obtain ⟨z', h1, h2⟩ := leafs_at (μ := μ) (H := s.H) e xs[i'] .dp _ _ hrow j z hz
              have hy' : cs[j]? = some y := by simpa using hy
              rw [hcs j hlt, h1] at hy'
              simp only [Option.some.injEq] at hy'
              subst hy'
              exact h2
            have hv2 : AR w (brE true E) (fun _ => undef) [] (.agg (leafs e xs[i'] .fz)) (.agg cs.toArray) := by
              refine ⟨_, rfl, ?_⟩
              have hrep : Rep w (brE true E) (.res 0) e xs[i'] .fz (fun _ => .top) (fun j => cs[j]?) := by
                refine Rep.freeze (E := E) (E' := brE true E) (fun b hb => ⟨brE_S hb, rfl⟩) (fun b q hq => ⟨Or.inr ⟨_, q, hq, rfl⟩, rfl⟩) e _ .dp _ _ _ _ (fun j v hj hv => ?_) hrow
                rw [hcs j hj]
                exact hv
              simpa using leafs_all hcl hrep
            refine wpList_value (y := .agg cs.toArray) (w' := w) g1 (by simp only [execOp, ho1, m2, Instr.loadAt, Instr.sureAddr, Sem.run_bind, Sem.run_pure, Result.andThen_ok, Nat.add_zero, hld]) ?_
            rw [dd1]
            have hA1 := hA.put (v := .agg (leafs e xs[i'] .dp)) (y := .agg cs.toArray) hn1 hA.mr (Ext.refl w E) (fun b hb => ⟨hb, rfl⟩) (KpH.refl μ s.H) hv1
            have hev : (a.put (some k') (.agg cs.toArray)).eval (.tmp k') = .agg cs.toArray := by
              simp [Act.eval, Act.put, Array.getD_eq_getD_getElem?, Array.getElem?_setIfInBounds, hA.size.1, hn1]
            generalize (a.put (some k') (.agg cs.toArray)) = a2 at hA1 hev ⊢
            obtain ⟨x, arr, hx1, hx2', hx3⟩ : ∃ x arr, c.callee = .value x ∧ a2.eval x = .func (.func f') #[] arr ∧ All2 (SR w E μ s.H) [] arr.toList := by
              unfold evCallee at hcal
              split at hcal
              · rename_i x hx
                split at hcal
                · rename_i f2 l2 hv
                  simp only [Option.some.injEq, Prod.mk.injEq] at hcal
                  obtain ⟨rfl, rfl⟩ := hcal
                  obtain ⟨arr, h1, h2⟩ := hA1.opnd hv
                  exact ⟨x, arr, hx, h1, h2⟩
                · simp at hcal
              · simp at hcal
            have harr : arr = #[] := by
              have := hx3.length
              simpa using this.symm
            subst harr
            have hal : All2 (AR w (brE true E) (fun _ => undef) []) (.agg (leafs e xs[i'] .fz) :: l') (c.args.map a2.eval ++ #[]).toList := by
              rw [Array.append_empty, Array.toList_map, hargs, List.map_cons, hev]
              exact .cons hv2 (flatArgs_run hA1 hfl)
            have hlt : ∀ b, (brE true E).S b → b < w.heap.size := by
              intro b hb
              rcases hb with hb | ⟨i, q, hq, _⟩
              · exact hA.mr.ltS b hb
              · exact hA.mr.ltκ b (by simp [hq])
            have hcall := hc.calls w (brE true E) (c.args.map a2.eval ++ #[]) (fun b => brE_κ) hlt ((ht.ext hA1.ext).env (fun b _ => brE_κ)) hal
            refine wpList_plain g2 fun K hK => ?_
            have hrun : (execOp a2.eval o2).run P w = .ok (.enter f' (c.args.map a2.eval ++ #[])) w := by
              simp only [execOp, ho2, resolve, hx1, hx2', Deferred.ofValue, Sem.run_bind, Sem.run_pure, Result.andThen_ok, invoke, Array.empty_append, hc.enters]
            simp only [Oper.wp, hrun, Oper.upon_enter]
            refine hcall.mono ?_
            rintro e' w' ⟨y, E', rfl, hX, hap, hlS, hlκ, hro, hR⟩
            simp only
            refine hK _ _ ?_
            refine resA_of (base := s.H.length) hR fun ys hRs hA3 => ?_
            obtain ⟨r1, r2, r3, r4, r5⟩ := MR.back hA.mr hX hap hlS hlκ hro hRs (fun _ => hsel)
            rw [dd2]
            exact k _ _ (hA1.put hn2 r1 r2 r3 r4 (hA3 _ _ _ r5)).rel
        · simp at h
      · simp at h
    · simp at h
  · simp at h

/-- A row's slice is lent, and the row has been set already. -/
theorem VO.lendInS (hT : TabOk P T) {o1 o2 o3 : Oper} {t : TypeId} {d1 d2 d3 id cur i j : Nat} {v2 : AV} {f : FuncId} {l : List AV} (h : evIn n s o1 o2 o3 = some (t, d1, d2, d3, id, cur, i, j, v2, f, l)) {e t' : Ty} (htt : tyOf T t = some (.sl t'))
    {X : List e.den} {c : e.den} {ys ys' : List t'.den} {x' : e.den} {rs : List RC} {v1 : Nat} (hH : s.H[id]? = some (some (.arr cur e (X.set i c) .dp))) (hget : (leafs e c .fz)[j]? = some (.v (.sl t') ys)) (hset : setLf e c j (.v (.sl t') ys') .fz = some x')
    (hi : i < X.length) (hc : ConM P f [some (.arr 0 t' ys .dp)] (.lf (.hd 0 0 none) :: l) rs [some (.arr v1 t' ys' .dp)]) (hrs : cntC rs = 0)
    (k : VO P n w0 E0 ops Q rest ⟨(d3, resA 0 rs) :: (d2, v2) :: (d1, .lf .any) :: s.sl, s.H.set id (some (.arr cur e (X.set i x') .dp))⟩) (ht : Tabs P w0 E0.toEnv := by assumption) : VO P n w0 E0 ops Q (o1 :: o2 :: o3 :: rest) s := by
  have hx : (X.set i c).getD i e.dflt = c := by simp [List.getD, hi]
  refine VO.lendIn hT h htt hH (by rw [hx]; exact hget) (by rw [hx]; exact hset) (by simpa using hi) hc hrs ?_
  rw [List.set_set]
  exact k
end
end Go.Proofs.Ytgpddckjpokclaa.Vc
