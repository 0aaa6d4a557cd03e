/- A calculus of values over the model, part 22: regions that draw their order. It speaks of any program. -/
import Derived.Test.YtgpddckjpokclaaVc21
namespace Go.Proofs.Ytgpddckjpokclaa.Vc
open Go Go.RowKit
set_option linter.unusedVariables false
set_option linter.unusedSimpArgs false

/-- One operation, its slot's new value apart. -/
def evR (T : Tab) (n : Nat) (m : Md) (s : St) (o : Oper) : Option (Prop × Option (Nat × AV) × Heap) :=
  match o.op with
  | .pick c x y => match o.guard, o.dst, opnd s.sl c with
    | none, some d, some (.lf (.v .bool b)) => match opnd s.sl (cond b x y) with
      | some v => cond (Nat.blt d n) (some (True, some (d, v), s.H)) none
      | none => none
    | _, _, _ => none
  | _ => match evQ T n s o with
    | some (d, φ, v) => some (φ, some (d, v), s.H)
    | none => match evNew T n s o with
      | some (d, v, H') => some (True, some (d, v), H')
      | none => match evLit T n s o with
        | some (d, v, H') => some (True, some (d, v), H')
        | none => match evApp T n s o with
          | some (d, φ, v, H') => some (φ, some (d, v), H')
          | none => match evStore T s o with
            | some (φ, H') => some (φ, none, H')
            | none => match evMake T n m s o with
              | some (d, φ, v, H') => some (φ, some (d, v), H')
              | none => match evBuild T n s o with
                | some (d, v) => some (True, some (d, v), s.H)
                | none => match evBy T n s o with
                  | some (d, v) => some (True, some (d, v), s.H)
                  | none => match evClr T s o with
                    | some H' => some (True, none, H')
                    | none => none

def putE (e : Option (Nat × AV)) (sl : List (Nat × AV)) : List (Nat × AV) := match e with
  | some x => x :: sl
  | none => sl

def oneQ (Q : Exit → St → Prop) (t : St) : Exit → St → Prop
  | .normal, s => s = t
  | e, s => Q e s

/-- Operation o, wherever these slots are known, does this. -/
def Stp (P : Program) (n : Nat) (w0 : World) (E0 : Env0) (ops : Array Oper) (Q : Exit → St → Prop) (o : Oper) (view : List (Nat × AV)) (H : Heap) (e : Option (Nat × AV)) (H' : Heap) : Prop :=
  ∀ sl, Le view sl → VO P n w0 E0 ops (oneQ Q ⟨putE e sl, H'⟩) [o] ⟨sl, H⟩

section
variable {P : Program} {T : Tab} {n : Nat} {w0 : World} {E0 : Env0} {s s' s'' : St} {ops : Array Oper} {Q : Exit → St → Prop} {rest : List Oper} {sl sl' view : List (Nat × AV)} {H H' : Heap}

theorem Stp.ev {m : Md} {o : Oper} {φ : Prop} {e : Option (Nat × AV)} (hT : TabOk P T) (h : evR T n m ⟨view, H⟩ o = some (φ, e, H')) (hφ : φ) : Stp P n w0 E0 ops Q o view H e H' := by
  intro sl hle
  have nil : ∀ t : St, VO P n w0 E0 ops (oneQ Q t) [] t := fun t => VO.nil rfl
  unfold evR at h
  split at h
  · rename_i c x y ho
    split at h
    · rename_i d b hg hd hc
      split at h
      · rename_i v hv
        cases hb : Nat.blt d n with
        | false => rw [hb] at h; simp at h
        | true =>
          rw [hb] at h
          simp only [cond_true, Option.some.injEq, Prod.mk.injEq] at h
          obtain ⟨rfl, rfl, rfl⟩ := h
          refine VO.pick ho hg hd (by simpa [Nat.blt_eq] using hb) (hle.opnd hc) ?_ (nil _)
          cases b <;> exact hle.opnd hv
      · simp at h
    · simp at h
  · split at h
    · rename_i d φ' v he
      simp only [Option.some.injEq, Prod.mk.injEq] at h
      obtain ⟨rfl, rfl, rfl⟩ := h
      exact VO.q hT (hle.evQ he) hφ (nil _)
    · split at h
      · rename_i d v H2 he
        simp only [Option.some.injEq, Prod.mk.injEq] at h
        obtain ⟨rfl, rfl, rfl⟩ := h
        exact VO.new hT (hle.evNew he) (nil _)
      · split at h
        · rename_i d v H2 he
          simp only [Option.some.injEq, Prod.mk.injEq] at h
          obtain ⟨rfl, rfl, rfl⟩ := h
          exact VO.lit hT (hle.evLit he) (nil _)
        · split at h
          · rename_i d φ' v H2 he
            simp only [Option.some.injEq, Prod.mk.injEq] at h
            obtain ⟨rfl, rfl, rfl⟩ := h
            exact VO.app hT (hle.evApp he) hφ (nil _)
          · split at h
            · rename_i φ' H2 he
              simp only [Option.some.injEq, Prod.mk.injEq] at h
              obtain ⟨rfl, rfl, rfl⟩ := h
              exact VO.store hT (hle.evStore he) hφ (nil _)
            · split at h
              · rename_i d φ' v H2 he
                simp only [Option.some.injEq, Prod.mk.injEq] at h
                obtain ⟨rfl, rfl, rfl⟩ := h
                exact VO.make m hT (hle.evMake he) hφ (nil _)
              · split at h
                · rename_i d v he
                  simp only [Option.some.injEq, Prod.mk.injEq] at h
                  obtain ⟨rfl, rfl, rfl⟩ := h
                  exact VO.build hT (hle.evBuild he) (nil _)
                · split at h
                  · rename_i d v he
                    simp only [Option.some.injEq, Prod.mk.injEq] at h
                    obtain ⟨rfl, rfl, rfl⟩ := h
                    exact VO.by_ hT (hle.evBy he) (nil _)
                  · split at h
                    · rename_i H2 he
                      simp only [Option.some.injEq, Prod.mk.injEq] at h
                      obtain ⟨rfl, rfl, rfl⟩ := h
                      exact VO.clr hT (hle.evClr he) (nil _)
                    · simp at h

theorem Stp.call (br : Bool) (tys cts : List PT) {o : Oper} {d : Option Nat} {f : FuncId} {ps : List AV} {rs : List RC} (hT : TabOk P T) (h : evArgs br tys cts n ⟨view, H⟩ o = some (d, f, ps)) (hc : Con P f ps rs) (hsel : (cond br (selfish rs) true) = true) (ht : Tabs P w0 E0.toEnv := by assumption) :
    Stp P n w0 E0 ops Q o view H (d.map fun d => (d, resA H.length rs)) (H ++ ownsC rs) := by
  intro sl hle
  refine VO.call br tys cts hT (hle.evArgs h) hc hsel ?_
  cases d <;> exact VO.nil rfl

/-- An operation behind a guard. -/
theorem Stp.on {o : Oper} {j : Nat} {want : Bool} {g : Oper} {d : Nat} {b : Bool} {e : Option (Nat × AV)} (hg : o.guard = some (j, want)) (hj : ops[j]? = some g) (hd : g.dst = some d) (hb : opnd view (.tmp d) = some (.lf (.v .bool b))) (hw : b = want)
    (h : Stp P n w0 E0 ops Q { o with guard := none } view H e H') : Stp P n w0 E0 ops Q o view H e H' :=
  fun sl hle => VO.on hg hj hd (hle.opnd hb) hw (h sl hle)

theorem Stp.off {o : Oper} {j : Nat} {want : Bool} {g : Oper} {d : Nat} {b : Bool} {e : Nat} (hg : o.guard = some (j, want)) (hj : ops[j]? = some g) (hd : g.dst = some d) (hb : opnd view (.tmp d) = some (.lf (.v .bool b))) (hw : b ≠ want) (he : o.dst = some e) (hn : e < n) :
    Stp P n w0 E0 ops Q o view H (some (e, .unk)) H :=
  fun sl hle => VO.off hg hj hd (hle.opnd hb) hw he hn (VO.nil rfl)

theorem Stp.off2 {o : Oper} {j : Nat} {want : Bool} {g : Oper} {d : Nat} {e : Nat} (hg : o.guard = some (j, want)) (hj : ops[j]? = some g) (hd : g.dst = some d) (hb : opnd view (.tmp d) = some .unk) (he : o.dst = some e) (hn : e < n) :
    Stp P n w0 E0 ops Q o view H (some (e, .unk)) H :=
  fun sl hle => VO.off2 hg hj hd (hle.opnd hb) he hn (VO.nil rfl)

/-! ### the orders -/
def aft (ops : Array Oper) (i : Nat) : List Nat := match ops[i]? with
  | some o => (o.after.toList.filter (Region.binds .any)).map (·.on)
  | none => []

def dstOf (ops : Array Oper) (i : Nat) : Option Nat := match ops[i]? with
  | some o => o.dst
  | none => none

def memN (i : Nat) : List Nat → Bool
  | [] => false
  | j :: l => Nat.beq i j || memN i l

def eqO : Option Nat → Nat → Bool
  | some j, k => Nat.beq j k
  | none, _ => false

/-- What operation i may look at, whatever has been done. -/
def vw (ops : Array Oper) (es : List (Option (Nat × AV))) (sl : List (Nat × AV)) (i : Nat) : List (Nat × AV) :=
  ((aft ops i).filterMap fun j => (es[j]?).getD none) ++ sl.filter fun x => (List.range ops.size).all fun j => !eqO (dstOf ops j) x.1 || memN i (aft ops j)

/-- May operation i come up where q of those that write have been done? -/
def okq (ops : Array Oper) (ns : List Nat) (i q : Nat) : Bool :=
  (List.range ns.length).all fun j => match ns[j]? with
    | some x => (!memN x (aft ops i) || Nat.blt j q) && (!memN i (aft ops x) || Nat.ble q j) && (!Nat.beq i x || Nat.beq q j)
    | none => true

def chained (ops : Array Oper) : List Nat → Bool
  | x :: y :: l => memN x (aft ops y) && chained ops (y :: l)
  | _ => true

def nodupO : List (Option Nat) → Bool
  | [] => true
  | none :: l => nodupO l
  | some d :: l => !(l.any fun o => eqO o d) && nodupO l

def covers (ops : Array Oper) (ns : List Nat) (L : List (Nat × Nat)) : Bool :=
  (List.range ops.size).all fun i => (List.range (ns.length + 1)).all fun q => !okq ops ns i q || L.any fun x => Nat.beq x.1 i && Nat.beq x.2 q

def AllP {α : Type} (f : α → Prop) : List α → Prop
  | [] => True
  | x :: l => f x ∧ AllP f l

theorem AllP.mem {α : Type} {f : α → Prop} : ∀ {l : List α}, AllP f l → ∀ x ∈ l, f x
  | [], _, x, hx => by simp at hx
  | y :: l, h, x, hx => by
    rcases List.mem_cons.1 hx with rfl | hx
    · exact h.1
    · exact AllP.mem h.2 x hx

def StpAt (P : Program) (n : Nat) (w0 : World) (E0 : Env0) (ops : Array Oper) (Q : Exit → St → Prop) (sl : List (Nat × AV)) (es : List (Option (Nat × AV))) (ns : List Nat) (Hs : List Heap) (x : Nat × Nat) : Prop :=
  ∃ o, ops[x.1]? = some o ∧ Stp P n w0 E0 ops Q o (vw ops es sl x.1) ((Hs[x.2]?).getD []) ((es[x.1]?).getD none) ((Hs[cond (memN x.1 ns) (x.2 + 1) x.2]?).getD [])

theorem memN_iff {i : Nat} : ∀ {l : List Nat}, memN i l = true ↔ i ∈ l
  | [] => by simp [memN]
  | j :: l => by
    simp only [memN, Bool.or_eq_true, List.mem_cons, memN_iff]
    constructor
    · rintro (h | h)
      · exact .inl (Nat.eq_of_beq_eq_true h)
      · exact .inr h
    · rintro (rfl | h)
      · exact .inl (Nat.beq_refl _)
      · exact .inr h

theorem eqO_iff {o : Option Nat} {k : Nat} : eqO o k = true ↔ o = some k := by
  cases o with
  | none => simp [eqO]
  | some j => simp only [eqO, Option.some.injEq]; exact ⟨Nat.eq_of_beq_eq_true, fun h => by subst h; exact Nat.beq_refl _⟩

theorem wp_swap {o : Oper} {a : Act} {w : World} {K : Act → World → Prop} {Q1 Q2 : Exit → Act → World → Prop} (h : ∀ e a w, e ≠ .normal → Q1 e a w → Q2 e a w) (hh : o.wp P a w K Q1) : o.wp P a w K Q2 := by
  unfold Oper.wp at *
  generalize (execOp a.eval o).run P w = r at *
  cases r with
  | ok m w' =>
    cases m <;> simp only [Oper.upon] at hh ⊢ <;>
      first
        | exact hh
        | (refine Calls.mono hh (fun e w'' he => ?_)
           cases e with
           | returned v => exact he
           | panicked c => exact h _ _ _ (by simp) he
           | outgrown => obtain ⟨a1, w1, h1⟩ := he; exact ⟨a1, w1, h _ _ _ (by simp) h1⟩)
  | halt x w' =>
    cases x <;> simp only [Oper.upon] at hh ⊢
    case panic v => exact h _ _ _ (by simp) hh

theorem SRel.le {H : Heap} {a : Act} {w : World} (h : SRel n w0 E0 ⟨sl', H⟩ a w) (hle : Le sl sl') : SRel n w0 E0 ⟨sl, H⟩ a w := by
  obtain ⟨h1, h2, h3, E, μ, h4, h5, h6⟩ := h
  exact ⟨h1, h2, h3, E, μ, h4, h5, fun k v hv => h6 k v (hle k v hv)⟩

theorem SRel.drew {a : Act} {w : World} (h : SRel n w0 E0 s a w) : SRel n w0 E0 s a { w with drawn := w.drawn + 1 } := by
  obtain ⟨E, μ, hA⟩ := h.at
  have hS : ∀ b, E.S b → E.S b ∧ ({ w with drawn := w.drawn + 1 } : World).heap[b]? = w.heap[b]? := fun b hb => ⟨hb, rfl⟩
  refine ⟨hA.size, hA.defers, hA.apart, E, μ, ⟨hA.mr.apart, hA.mr.ltS, hA.mr.ltκ, hA.mr.roots, fun id blk h => NB.keep (w := w) hS (KpH.refl μ s.H) (fun b q hq => ⟨hq, rfl⟩) rfl (hA.mr.blks id blk h)⟩, ?_, fun k v hv => ?_⟩
  · have hX := hA.ext
    exact ⟨hX.os, hX.tape, hX.output, hX.size, hX.block, hX.grow, hX.from_, hX.own⟩
  · obtain ⟨y, h1, h2⟩ := hA.slots k v hv
    exact ⟨y, h1, AR.keep (w := w) hS (KpH.refl μ s.H) v y h2⟩
end
end Go.Proofs.Ytgpddckjpokclaa.Vc
