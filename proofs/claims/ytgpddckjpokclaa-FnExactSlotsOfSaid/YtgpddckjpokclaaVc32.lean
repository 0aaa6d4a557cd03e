/- A calculus of values over the model, part 32: a literal of one row that takes slices of ours along. It speaks of any program. -/
import Derived.Test.YtgpddckjpokclaaVc31
namespace Go.Proofs.Ytgpddckjpokclaa.Vc
open Go Go.RowKit
set_option linter.unusedVariables false
set_option linter.unusedSimpArgs false

def evLitA (T : Tab) (n : Nat) (s : St) (o : Oper) : Option (Nat × AV × Heap) :=
  match o.guard, o.dst, o.op with
  | none, some d, .buildSlice t 1 parts => cond (Nat.blt d n) (match elemTy T t with
    | some (_, e) => match litRows s.sl 0 parts.toList with
      | some [cs] => cond (Nat.beq cs.length e.lv && hdsOk (hdsOf 0 cs) 0 cs && noneB (lookN (hdsOf 0 cs) s.H.length) && Nat.ble e.lv 16777216) (match ofLfsA s.H e cs with
        | some (y, _) => some (d, .lf (.hd s.H.length 0 none), clrH s.H (hdsOf 0 cs) ++ [some (.arr 0 e [y] .dp)])
        | none => none) none
      | _ => none
    | none => none) none
  | _, _, _ => none

section
variable {P : Program} {T : Tab} {n : Nat} {w0 : World} {E0 : Env0} {s s' s'' : St} {ops : Array Oper} {Q : Exit → St → Prop} {rest : List Oper}
variable {w w' : World} {E E' : Env} {μ μ' : Nat → Value} {H H' : Heap}

theorem VO.litA {o : Oper} {d : Nat} {v : AV} {H' : Heap} (hT : TabOk P T) (h : evLitA T n s o = some (d, v, H')) (k : VO P n w0 E0 ops Q rest ⟨(d, v) :: s.sl, H'⟩) : VO P n w0 E0 ops Q (o :: rest) s := by
  intro a w hs
  obtain ⟨E, μ, hA⟩ := hs.at
  unfold evLitA at h
  split at h
  · rename_i d' t parts hg hd ho
    cases hb : Nat.blt d' n with
    | false => rw [hb] at h; simp at h
    | true =>
      rw [hb] at h
      simp only [cond_true] at h
      have hdn : d' < n := by simpa [Nat.blt_eq] using hb
      split at h
      · rename_i ti e he
        split at h
        · rename_i cs hrows
          cases hc : (Nat.beq cs.length e.lv && hdsOk (hdsOf 0 cs) 0 cs && noneB (lookN (hdsOf 0 cs) s.H.length) && Nat.ble e.lv 16777216) with
          | false => rw [hc] at h; simp at h
          | true =>
            rw [hc] at h
            simp only [Bool.and_eq_true] at hc
            obtain ⟨⟨⟨hcl, hok⟩, hid0⟩, hsm⟩ := hc
            have hcl := Nat.eq_of_beq_eq_true hcl
            have hsm : e.lv ≤ 16777216 := by simpa using hsm
            generalize hπ : hdsOf 0 cs = π at h hok hid0
            have hid : lookN π s.H.length = none := by
              cases hl : lookN π s.H.length with
              | none => rfl
              | some j => rw [hl] at hid0; simp [noneB] at hid0
            simp only [cond_true] at h
            split at h
            · rename_i y rst hof
              simp only [Option.some.injEq, Prod.mk.injEq] at h
              obtain ⟨rfl, rfl, rfl⟩ := h
              obtain ⟨f1, ej, f2, f3⟩ := elemTy_under hT he
              obtain ⟨info, g1, g2, g3, _⟩ := (hT _ _ f2).info
              rw [f3] at g2 g3
              obtain ⟨z, hz, hz'⟩ := Option.map_eq_some_iff.1 g3
              obtain ⟨l1, l2⟩ := litRows_run hA hrows
              have hpos := lv_pos e
              generalize hvs : (parts.toList.map fun x => a.eval x.2) = vs at l1 l2
              obtain ⟨v0, rfl, hcv⟩ : ∃ v0, vs = [v0] ∧ All2 (LR w E μ s.H) cs v0.cells.toList := by
                cases l2 with
                | cons h1 h2 => cases h2; exact ⟨_, rfl, h1⟩
              have hv0 : v0.cells.size = e.lv := by rw [← Array.length_toList, ← hcv.length, hcl]
              generalize hy : (Value.slice (some ⟨w.heap.size, 0, none⟩) 1 1) = yv
              have hrun : (execOp a.eval o).run P w = .ok (.value yv) (w.alloc (.cells v0.cells ti.elem)) := by
                have hparts : (parts.map fun (i, x) => (i, a.eval x)).toList = ([v0].zipIdx 0).map fun x => (x.2, x.1) := by
                  rw [Array.toList_map, ← l1]
                have := run_buildSlice w t ti.elem 1 (parts.map fun (i, x) => (i, a.eval x)) v0.cells info z f1 g1 hz (by rw [g2]; omega) (by rw [g2]; omega) (by
                  rw [hparts, g2]
                  rw [Great.fill_whole hpos [v0] _ (by intro v hv; simp at hv; subst hv; exact hv0) (by simp)]
                  simp)
                simp only [execOp, ho, Sem.run_bind, this, Result.andThen_ok, Sem.run_pure, hy]
              refine wpList_value hg hrun ?_
              rw [hd]
              have hother : ∀ c, c < w.heap.size → (w.alloc (.cells v0.cells ti.elem)).heap[c]? = w.heap[c]? := fun c hc => alloc_old w _ hc
              have hnew : (w.alloc (.cells v0.cells ti.elem)).heap[w.heap.size]? = some (.cells v0.cells ti.elem (0, 0)) := by rw [alloc_heap]; simp
              have hnsz : (w.alloc (.cells v0.cells ti.elem)).heap.size = w.heap.size + 1 := by rw [alloc_heap]; simp
              have hsize : ∀ c, E.κ c ≠ none → c ≠ w.heap.size := fun c h e => by have := hA.mr.ltκ c h; omega
              let E' := attE (putκ E w.heap.size (.id s.H.length, .top)) s.H.length (fun j => .inside w.heap.size j) π
              have hS : ∀ c, E.S c → E'.S c ∧ (w.alloc (.cells v0.cells ti.elem)).heap[c]? = w.heap[c]? := fun c hc => ⟨hc, hother c (hA.mr.ltS c hc)⟩
              have hκ0 : E'.κ w.heap.size = some (.id s.H.length, .top) := by simp only [E', attE, putκ, if_true, hid]
              have hκn : ∀ c, c ≠ w.heap.size → E.κ c = none → E'.κ c = none := fun c hne hc => by simp only [E', attE, putκ, if_neg hne, hc]
              have hκs : ∀ c k q, E.κ c = some (.id k, q) → lookN π k = none → E'.κ c = some (.id k, q) := fun c k q hc hk => by simp only [E', attE, putκ, if_neg (hsize c (by simp [hc])), hc, hk]
              have hκm : ∀ c k q j, E.κ c = some (.id k, q) → lookN π k = some j → E'.κ c = some (.id s.H.length, if q = .top then .inside w.heap.size j else q) := fun c k q j hc hk => by simp only [E', attE, putκ, if_neg (hsize c (by simp [hc])), hc, hk]
              have hlen : (clrH s.H π).length = s.H.length := clrH_length _ _
              have hK : KpH μ (putμ μ s.H.length yv) s.H (clrH s.H π ++ [some (.arr 0 e [y] .dp)]) := by
                intro q c hc
                have hql : q < s.H.length := (List.getElem?_eq_some_iff.1 hc).1
                rw [List.getElem?_append_left (by rw [hlen]; exact hql), show putμ μ s.H.length yv q = μ q by simp [putμ]; omega]
                rcases clrH_at π s.H q with ⟨_, h⟩ | ⟨_, h⟩
                · exact ⟨c, by rw [h]; exact hc, Kp.refl _ _⟩
                · exact ⟨none, h hql, trivial⟩
              obtain ⟨r1, _, _, _⟩ := ofLfsA_rep (w' := w.alloc (.cells v0.cells ti.elem)) (E' := E') hA.mr (r := .id s.H.length) (p := fun j => .inside w.heap.size j) hof hcv hS (fun j k ver hj hlk c q hc => by
                have := hdsOk_at hok j k ver hlk
                rw [Nat.zero_add] at this
                exact ⟨hκm c k q j hc this, hother c (hA.mr.ltκ c (by simp [hc]))⟩)
              have hlt : ∀ c, E'.κ c ≠ none → c < w.heap.size + 1 := by
                intro c hc
                by_cases hcn : c = w.heap.size
                · omega
                · by_cases hE : E.κ c = none
                  · exact absurd (hκn c hcn hE) hc
                  · have := hA.mr.ltκ c hE
                    omega
              have hM : MR (w.alloc (.cells v0.cells ti.elem)) E' (putμ μ s.H.length yv) (clrH s.H π ++ [some (.arr 0 e [y] .dp)]) 0 := by
                refine MR.step hA.mr (fun c hc => ?_) (fun c hc => ?_) (fun c hc => by rw [hnsz]; exact hlt c hc) (fun c r q hc => ?_) hS hK (fun q blk hq => ?_)
                · have := hA.mr.ltS c hc
                  exact hκn c (by omega) (hA.mr.apart c hc)
                · have := hA.mr.ltS c hc
                  rw [hnsz]; omega
                · by_cases hcn : c = w.heap.size
                  · subst hcn
                    rw [hκ0] at hc
                    simp only [Option.some.injEq, Prod.mk.injEq] at hc
                    exact .inl ⟨_, hc.1.symm, by simp [hlen]⟩
                  · cases hE : E.κ c with
                    | none => rw [hκn c hcn hE] at hc; simp at hc
                    | some x =>
                      obtain ⟨r0, q0⟩ := x
                      rcases hA.mr.roots c r0 q0 hE with ⟨m, rfl, hm⟩ | ⟨m, _, hm⟩
                      · cases hl : lookN π m with
                        | none =>
                          rw [hκs c m q0 hE hl] at hc
                          simp only [Option.some.injEq, Prod.mk.injEq] at hc
                          exact .inl ⟨m, hc.1.symm, by simp [hlen]; omega⟩
                        | some j =>
                          rw [hκm c m q0 j hE hl] at hc
                          simp only [Option.some.injEq, Prod.mk.injEq] at hc
                          exact .inl ⟨_, hc.1.symm, by simp [hlen]⟩
                      · omega
                · by_cases hql : q < s.H.length
                  · rw [List.getElem?_append_left (by rw [hlen]; exact hql)] at hq
                    rcases clrH_at π s.H q with ⟨hl, h⟩ | ⟨_, h⟩
                    · rw [h] at hq
                      exact .inl ⟨hq, by simp [putμ]; omega, fun c p hc => ⟨hκs c _ _ hc hl, hother c (hA.mr.ltκ c (by simp [hc]))⟩⟩
                    · rw [h hql] at hq
                      simp at hq
                  · have hqe : q = s.H.length := by
                      have := (List.getElem?_eq_some_iff.1 hq).1
                      simp [hlen] at this
                      omega
                    subst hqe
                    rw [← hlen, List.getElem?_concat_length] at hq
                    simp only [Option.some.injEq] at hq
                    subst hq
                    refine .inr ⟨by simp, _, rfl, .inr ⟨by simp, .inr ⟨w.heap.size, 1, v0.cells, ti.elem, by simp [putμ, ← hy], by simp, hnew, by rw [hv0, Nat.one_mul], hκ0, fun i hi => ?_⟩⟩⟩
                    have hi0 : i = 0 := by simp at hi; omega
                    subst hi0
                    simp only [List.getElem_cons_zero, Nat.zero_mul, Nat.zero_add]
                    refine Rep.move (E := E') (E' := E') (fun _ => True) (fun q => q) (fun c hc => ⟨hc, rfl⟩) (fun c q _ hq => ⟨hq, rfl, fun k => ⟨trivial, rfl⟩⟩) e y .dp _ _ _ _ (fun _ => ⟨fun _ => trivial, fun _ => rfl⟩) (fun q v hq hv => ?_) r1
                    simp only [cellAt, World.cell?, hnew, Option.isSome_none, Bool.false_eq_true, if_false]
                    simpa using hv
              refine k _ _ (hA.put hdn hM ⟨rfl, rfl, rfl, by rw [hnsz]; omega, fun c hc _ => hother c hc, fun c hc => hc, fun c hc => .inl hc, fun c hc => ?_⟩ hS hK ?_).rel
              · by_cases hcn : c = w.heap.size
                · exact .inr (by omega)
                · exact .inl (fun hE => hc (hκn c hcn hE))
              · rw [← hy]
                simp [AR, LR, putμ, HdR, hlen]
                rfl
            · simp at h
        · simp at h
      · simp at h
  · simp at h
end
end Go.Proofs.Ytgpddckjpokclaa.Vc
