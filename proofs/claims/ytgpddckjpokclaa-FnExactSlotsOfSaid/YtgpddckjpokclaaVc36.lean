/- A calculus of values over the model, part 36: a function that hands out a new variable. It speaks of any program. -/
import Derived.Test.YtgpddckjpokclaaVc35
namespace Go.Proofs.Ytgpddckjpokclaa.Vc
open Go Go.RowKit
set_option linter.unusedVariables false
set_option linter.unusedSimpArgs false

def Lf.isV : Lf → Bool
  | .v _ _ => true
  | _ => false

/-- What a call of f answers: a pointer to a variable that holds the values l. -/
def HB (P : Program) (f : FuncId) (ps : List AV) (l : List Lf) (t : TypeId) : Prop :=
  ∀ (w : World) (E : Env) (args : Array Value), (∀ b, E.κ b = none) → (∀ b, E.S b → b < w.heap.size) → Tabs P w E → All2 (AR w E (fun _ => undef) []) ps args.toList →
    Calls P f args w fun e w' => ∃ b arr E', e = .returned (.pointer (some ⟨b, 0, none⟩)) ∧ Ext w E w' E' ∧ (∀ c, E'.S c → E'.κ c = none) ∧ (∀ c, E'.S c → c < w'.heap.size) ∧ (∀ c, E'.κ c ≠ none → c < w'.heap.size) ∧
      (∀ c r q, E'.κ c = some (r, q) → r = .res 0) ∧ E'.κ b = some (.res 0, .top) ∧ w'.heap[b]? = some (.cells arr t (0, 0)) ∧ All2 (LR w' E' (fun _ => undef) []) l arr.toList

structure ConB (P : Program) (f : FuncId) (ps : List AV) (l : List Lf) (t : TypeId) : Prop where
  enters : ∀ (args : Array Value) (w : World), (callFunc f args).run P w = .ok (.enter f args) w
  vals : l.all Lf.isV = true
  calls : HB P f ps l t

def retB (d : Nat) (l : List Lf) (t : TypeId) : Exit → St → Prop
  | .normal, s | .ret, s => ∃ id ver, opnd s.sl (.tmp d) = some (.lf (.ptr id ver 0 0)) ∧ s.H[id]? = some (some (.box l t))
  | _, _ => False

section
variable {P : Program} {T : Tab} {n : Nat} {w0 : World} {E0 : Env0} {s : St} {ops : Array Oper} {Q : Exit → St → Prop} {rest : List Oper}
variable {w w' : World} {E E' : Env} {μ μ' : Nat → Value} {H H' : Heap}

theorem vals_LR (hS : ∀ b, E.S b → E'.S b ∧ w'.heap[b]? = w.heap[b]?) : ∀ {l : List Lf} {ys : List Value}, l.all Lf.isV = true → All2 (LR w E μ H) l ys → All2 (LR w' E' μ' H') l ys
  | [], [], _, .nil => .nil
  | a :: l, y :: ys, hv, .cons h1 h2 => by
    simp only [List.all_cons, Bool.and_eq_true] at hv
    refine .cons ?_ (vals_LR hS hv.2 h2)
    cases a with
    | v t x =>
      have h1' : Rep w E (.res 0) t x .fz (fun _ => .top) (at0 y) := h1
      exact Rep.fz hS t x (fun _ _ _ h => h) h1'
    | _ => simp [Lf.isV] at hv

theorem HB.intro {f : FuncId} {fn : Func} {c : Code} {ps : List AV} {l : List Lf} {t : TypeId} {d : Nat} (hf : P.funcs[f]? = some fn) (hb : fn.body = some c) (hn : ps.length ≤ fn.ntmps) (hg : fn.ntmps ≤ gb) (hr : fn.results = #[.tmp d]) (hv : l.all Lf.isV = true)
    (h : ∀ w0 E0, Tabs P w0 E0.toEnv → VW P fn.ntmps w0 E0 c (retB d l t) ⟨argSl 0 ps, []⟩) : HB P f ps l t := by
  intro w E args hκ hlt ht hargs
  refine calls_of_wp hf hb ?_
  have hal := hargs.length
  simp only [Array.length_toList] at hal
  have hs : SRel fn.ntmps w ⟨E, fun _ => undef⟩ ⟨argSl 0 ps, []⟩ { tmps := args ++ Array.replicate (fn.ntmps - args.size) undef, defers := [] } w := by
    refine ⟨⟨by simp; omega, hg⟩, rfl, fun b _ => hκ b, E, fun _ => undef, ⟨fun b _ => hκ b, hlt, fun b hb => absurd (hκ b) hb, fun b r q hq => by rw [hκ] at hq; simp at hq, fun id blk hi => by simp at hi⟩, Ext.refl w E, fun k v hv => ?_⟩
    obtain ⟨_, h2⟩ := argSl_look ps 0 k v hv
    simp only [Nat.sub_zero] at h2
    obtain ⟨y, h3, h4⟩ := hargs.get k v h2
    refine ⟨y, ?_, h4⟩
    have hk := (List.getElem?_eq_some_iff.1 h3).1
    simp only [Array.length_toList] at hk
    rw [getS_lt (by omega), Array.getElem?_append_left hk, ← Array.getElem?_toList]
    exact h3
  refine wp_mono (h w ⟨E, fun _ => undef⟩ ht _ _ hs) ?_
  rintro e a' w' ⟨s', h1, h2⟩
  have fin : (∃ id ver, opnd s'.sl (.tmp d) = some (.lf (.ptr id ver 0 0)) ∧ s'.H[id]? = some (some (.box l t))) → a'.defers = [] ∧ ∃ v, (results fn a'.tmps).run P w' = .ok v w' ∧ ∃ b arr E', Ending.returned v = .returned (.pointer (some ⟨b, 0, none⟩)) ∧ Ext w E w' E' ∧ (∀ c, E'.S c → E'.κ c = none) ∧ (∀ c, E'.S c → c < w'.heap.size) ∧ (∀ c, E'.κ c ≠ none → c < w'.heap.size) ∧
      (∀ c r q, E'.κ c = some (r, q) → r = .res 0) ∧ E'.κ b = some (.res 0, .top) ∧ w'.heap[b]? = some (.cells arr t (0, 0)) ∧ All2 (LR w' E' (fun _ => undef) []) l arr.toList := by
    rintro ⟨id, ver, hd, hH⟩
    obtain ⟨E1, μ, hA⟩ := h1.at
    refine ⟨hA.defers, ?_⟩
    obtain ⟨y, hy1, hy2⟩ := hA.tmp hd
    simp only [AR, LR, hH] at hy2
    obtain ⟨_, b, hb1, rfl⟩ := hy2
    obtain ⟨b', arr, f1, f2, f3, f4⟩ := hA.mr.blks id _ hH
    rw [hb1] at f1
    simp only [Value.pointer.injEq, Option.some.injEq, Addr.mk.injEq, and_true] at f1
    subst f1
    have hκ2 : ∀ b, (retE E1 [some id]).κ b ≠ none → E1.κ b ≠ none := by
      intro b hb e
      simp only [retE, e] at hb
      exact hb rfl
    refine ⟨.pointer (some ⟨b, 0, none⟩), ?_, b, arr, retE E1 [some id], rfl, ?_, ?_, ?_, fun c hc => hA.mr.ltκ c (hκ2 c hc), ?_, ?_, f3, vals_LR (E' := retE E1 [some id]) (fun b hb => ⟨Or.inl hb, rfl⟩) hv f4⟩
    · have : a'.tmps.getD d undef = .pointer (some ⟨b, 0, none⟩) := by simp [Array.getD_eq_getD_getElem?, hy1]
      simp [results, hr, hy1]
    · have hX := hA.ext
      refine ⟨hX.os, hX.tape, hX.output, hX.size, hX.block, fun b hb => .inl (hX.grow b hb), fun b hb => ?_, fun b hb => hX.own b (hκ2 b hb)⟩
      rcases hb with hb | ⟨i, q, hq, _⟩
      · exact hX.from_ b hb
      · exact .inr (hX.own b (by simp [hq]))
    · intro c hc
      rcases hc with hc | ⟨i, q, hq, hp⟩
      · simp only [retE, hA.mr.apart c hc]
      · simp only [retE, hq, hp, Option.map_none]
    · intro c hc
      rcases hc with hc | ⟨i, q, hq, _⟩
      · exact hA.mr.ltS c hc
      · exact hA.mr.ltκ c (by simp [hq])
    · intro c r q hq
      simp only [retE] at hq
      split at hq
      · rename_i i q' hi
        simp only [Option.map_eq_some_iff, Prod.mk.injEq] at hq
        obtain ⟨k, hk, rfl, rfl⟩ := hq
        have := pos_lt hk
        simp at this
        rw [this]
      · simp at hq
    · simp only [retE, f2]
      simp [pos]
  cases e with
  | normal => exact fin h2
  | ret => exact fin h2
  | exit id => exact h2.elim
  | goto l => exact h2.elim
  | panic c => exact h2.elim
  | outgrown => exact h2.elim

/-- Back from a call that handed out a variable. -/
theorem MR.backB {l : List Lf} {t : TypeId} {b0 : Nat} {arr : Array Value} (hM : MR w E μ H 0) (hX : Ext w (brE false E) w' E') (hap : ∀ b, E'.S b → E'.κ b = none) (hlS : ∀ b, E'.S b → b < w'.heap.size) (hlκ : ∀ b, E'.κ b ≠ none → b < w'.heap.size)
    (hro : ∀ b r q, E'.κ b = some (r, q) → r = .res 0) (hb0 : E'.κ b0 = some (.res 0, .top)) (hheap : w'.heap[b0]? = some (.cells arr t (0, 0))) (hv : l.all Lf.isV = true) (hL : All2 (LR w' E' (fun _ => undef) []) l arr.toList) :
    MR w' (backE false E E' H.length) (backμ μ H.length [.pointer (some ⟨b0, 0, none⟩)]) (H ++ [some (.box l t)]) 0 ∧ Ext w E w' (backE false E E' H.length) ∧ (∀ b, E.S b → (backE false E E' H.length).S b ∧ w'.heap[b]? = w.heap[b]?) ∧ KpH μ (backμ μ H.length [.pointer (some ⟨b0, 0, none⟩)]) H (H ++ [some (.box l t)]) := by
  have hnew : ∀ b, E'.κ b ≠ none → w.heap.size ≤ b := fun b hb => by
    rcases hX.own b hb with h | h
    · exact absurd brE_κ h
    · exact h
  have hold : ∀ b, E.κ b ≠ none → E'.κ b = none := fun b hb => by
    cases h : E'.κ b with
    | none => rfl
    | some x => have h1 := hnew b (by simp [h]); have h2 := hM.ltκ b hb; omega
  have hkeep : ∀ b, b < w.heap.size → w'.heap[b]? = w.heap[b]? := fun b hb => hX.block b hb brE_κ
  have hS : ∀ b, E.S b → (backE false E E' H.length).S b ∧ w'.heap[b]? = w.heap[b]? := fun b hb => ⟨hX.grow b hb, hkeep b (hM.ltS b hb)⟩
  have hSn : ∀ b, (backE false E E' H.length).S b → E.S b ∨ (E'.S b ∧ w.heap.size ≤ b) := by
    intro b hb
    rcases hX.from_ b hb with h | h | h
    · exact .inl h
    · exact absurd brE_κ h
    · exact .inr ⟨hb, h⟩
  have hκκ : ∀ b i q, E.κ b = some (.id i, q) → (backE false E E' H.length).κ b = some (.id i, q) := by
    intro b i q h
    simp only [backE, hold b (by simp [h]), h]
  have hKp : KpH μ (backμ μ H.length [.pointer (some ⟨b0, 0, none⟩)]) H (H ++ [some (.box l t)]) := by
    intro i c hc
    have hlt := (List.getElem?_eq_some_iff.1 hc).1
    refine ⟨c, by rw [List.getElem?_append_left hlt]; exact hc, ?_⟩
    rw [backμ_old hlt]
    exact Kp.refl _ _
  refine ⟨?_, ?_, hS, hKp⟩
  · refine MR.step hM ?_ ?_ ?_ ?_ hS hKp ?_
    · intro b hb
      rcases hSn b hb with h | ⟨h1, h2⟩
      · have h0 := hM.apart b h
        have : E'.κ b = none := by
          cases hk : E'.κ b with
          | none => rfl
          | some x => have := hnew b (by simp [hk]); have := hM.ltS b h; omega
        simp only [backE, this, h0]
      · simp only [backE, hap b h1]
        cases hk : E.κ b with
        | none => rfl
        | some x => have := hM.ltκ b (by simp [hk]); omega
    · intro b hb
      rcases hSn b hb with h | ⟨h1, _⟩
      · have := hM.ltS b h; have := hX.size; omega
      · exact hlS b h1
    · intro b hb
      simp only [backE] at hb
      split at hb
      · rename_i k q hk
        exact hlκ b (by simp [hk])
      · have := hM.ltκ b hb; have := hX.size; omega
    · intro b r q hb
      simp only [backE] at hb
      split at hb
      · rename_i k q' hk
        simp only [Option.some.injEq, Prod.mk.injEq] at hb
        have hn := hro b _ _ hk
        simp only [Root.res.injEq] at hn
        subst hn
        exact .inl ⟨_, hb.1.symm, by simp⟩
      · rcases hM.roots b r q hb with ⟨m, h1, h2⟩ | h1
        · exact .inl ⟨m, h1, by rw [List.length_append]; omega⟩
        · exact .inr h1
    · intro id blk h
      by_cases hid : id < H.length
      · rw [List.getElem?_append_left hid] at h
        exact .inl ⟨h, backμ_old hid, fun b q hq => ⟨hκκ b id q hq, hkeep b (hM.ltκ b (by simp [hq]))⟩⟩
      · rw [List.getElem?_append_right (by omega)] at h
        have hid' : id - H.length = 0 := by
          cases hz : id - H.length with
          | zero => rfl
          | succ z => rw [hz] at h; simp at h
        rw [hid'] at h
        simp only [List.getElem?_cons_zero, Option.some.injEq] at h
        subst h
        have hide : id = H.length := by omega
        subst hide
        refine .inr ⟨b0, arr, ?_, ?_, hheap, vals_LR (E := E') (E' := backE false E E' H.length) (fun b hb => ⟨hb, rfl⟩) hv hL⟩
        · have := backμ_new (μ := μ) (base := H.length) (vs := [Value.pointer (some ⟨b0, 0, none⟩)]) (i := 0) (v := .pointer (some ⟨b0, 0, none⟩)) rfl
          simpa using this
        · simp only [backE, hb0, Nat.add_zero]
  · refine ⟨hX.os, hX.tape, hX.output, hX.size, fun b hb _ => hkeep b hb, fun b hb => (hS b hb).1, fun b hb => ?_, fun b hb => ?_⟩
    · rcases hSn b hb with h | ⟨_, h⟩
      · exact .inl h
      · exact .inr (.inr h)
    · simp only [backE] at hb
      split at hb
      · rename_i k q hk
        exact .inr (hnew b (by simp [hk]))
      · exact .inl hb

/-- A call that hands out a variable. -/
theorem VO.callB (tys : List PT) {o : Oper} {d : Nat} {f : FuncId} {ps : List AV} {l : List Lf} {t : TypeId} (h : evArgs false tys [] n s o = some (some d, f, ps)) (hc : ConB P f ps l t)
    (k : VO P n w0 E0 ops Q rest ⟨(d, .lf (.ptr s.H.length 0 0 0)) :: s.sl, s.H ++ [some (.box l t)]⟩) (ht : Tabs P w0 E0.toEnv := by assumption) : VO P n w0 E0 ops Q (o :: rest) s := by
  intro a w hs
  obtain ⟨E, μ, hA⟩ := hs.at
  unfold evArgs at h
  split at h
  · rename_i c hg ho
    split at h
    · rename_i f' l' hcal
      split at h
      · rename_i ps' cs' hps hcs
        obtain ⟨x, arr, hx1, hx2, hx3⟩ : ∃ x arr, c.callee = .value x ∧ a.eval x = .func (.func f') #[] arr ∧ All2 (SR w E μ s.H) l' arr.toList := by
          unfold evCallee at hcal
          split at hcal
          · rename_i x hx
            split at hcal
            · rename_i f2 l2 hv
              simp only [Option.some.injEq, Prod.mk.injEq] at hcal
              obtain ⟨rfl, rfl⟩ := hcal
              obtain ⟨arr, h1, h2⟩ := hA.opnd hv
              exact ⟨x, arr, hx, h1, h2⟩
            · simp at hcal
          · simp at hcal
        have hfin : f' = f ∧ ps = ps' ++ cs'.map svAV ∧ o.dst = some d ∧ d < n := by
          split at h
          · simp at h
          · rename_i d' hd
            cases hb : Nat.blt d' n with
            | false => rw [hb] at h; simp at h
            | true =>
              rw [hb] at h
              simp only [cond_true, Option.some.injEq, Prod.mk.injEq] at h
              obtain ⟨rfl, rfl, rfl⟩ := h
              exact ⟨rfl, rfl, hd, by simpa [Nat.blt_eq] using hb⟩
        obtain ⟨rfl, rfl, hd, hdn⟩ := hfin
        have hargs : All2 (AR w (brE false E) (fun _ => undef) []) (ps' ++ cs'.map svAV) (c.args.map a.eval ++ arr).toList := by
          rw [Array.toList_append, Array.toList_map]
          refine (fitAs_run hA hps).append ?_
          have h2 := fitSs_run (br := false) hA.mr hcs hx3
          have : ∀ {xs : List SV} {ys : List Value}, All2 (SR w (brE false E) (fun _ => undef) []) xs ys → All2 (AR w (brE false E) (fun _ => undef) []) (xs.map svAV) ys := by
            intro xs ys h
            induction h with
            | nil => exact .nil
            | cons h1 _ ih => exact .cons (svAV_AR h1) ih
          exact this h2
        have hcall := hc.calls w (brE false E) (c.args.map a.eval ++ arr) (fun b => brE_κ) (fun b hb => hA.mr.ltS b hb) ((ht.ext hA.ext).env (fun b _ => brE_κ)) hargs
        refine wpList_plain hg fun K hK => ?_
        have hrun : (execOp a.eval o).run P w = .ok (.enter f' (c.args.map a.eval ++ arr)) w := by
          simp only [execOp, ho, resolve, hx1, hx2, Deferred.ofValue, Sem.run_bind, Sem.run_pure, Result.andThen_ok, invoke, Array.empty_append, hc.enters]
        simp only [Oper.wp, hrun, Oper.upon_enter]
        refine hcall.mono ?_
        rintro e w' ⟨b, arr', E', rfl, hX, hap, hlS, hlκ, hro, hb0, hheap, hL⟩
        simp only
        refine hK _ _ ?_
        obtain ⟨m1, m2, m3, m4⟩ := MR.backB hA.mr hX hap hlS hlκ hro hb0 hheap hc.vals hL
        rw [hd]
        refine k _ _ (hA.put hdn m1 m2 m3 m4 ?_).rel
        have hμ := backμ_new (μ := μ) (base := s.H.length) (vs := [Value.pointer (some ⟨b, 0, none⟩)]) (i := 0) (v := .pointer (some ⟨b, 0, none⟩)) rfl
        simp only [Nat.add_zero] at hμ
        have hH : (s.H ++ [some (Blk.box l t)])[s.H.length]? = some (some (.box l t)) := by simp
        simp only [AR, LR, hH]
        exact ⟨rfl, b, hμ, rfl⟩
      · simp at h
    · simp at h
  · simp at h

/-- No state is so: a slot names what is not there yet. -/
theorem Stp.void {view : List (Nat × AV)} {H H' : Heap} {o : Oper} {e : Option (Nat × AV)} (d id ver i j : Nat) (hd : look view d = some (.lf (.ptr id ver i j))) (hH : H[id]? = none) : Stp P n w0 E0 ops Q o view H e H' := by
  intro sl hle a w hs
  exfalso
  obtain ⟨E, μ, hA⟩ := hs.at
  obtain ⟨y, _, h⟩ := hA.slots d _ (hle d _ hd)
  simp [AR, LR, hH] at h

theorem Stp.voidS {view : List (Nat × AV)} {H H' : Heap} {o : Oper} {e : Option (Nat × AV)} (d id ver : Nat) (rng : Option (Nat × Nat)) (hd : look view d = some (.lf (.hd id ver rng))) (hH : H[id]? = none) : Stp P n w0 E0 ops Q o view H e H' := by
  intro sl hle a w hs
  exfalso
  obtain ⟨E, μ, hA⟩ := hs.at
  obtain ⟨y, _, h⟩ := hA.slots d _ (hle d _ hd)
  simp [AR, LR, hH] at h
end
end Go.Proofs.Ytgpddckjpokclaa.Vc
