/- A calculus of values over the model, eighteenth part: many operations at once. It speaks of any program. -/
import Derived.Test.YtgpddckjpokclaaVc17d
namespace Go.Proofs.Ytgpddckjpokclaa.Vc
open Go Go.RowKit
set_option linter.unusedVariables false
set_option linter.unusedSimpArgs false

/-- A slot is a nil slice: it is taken as an empty slice of ours. -/
def evNilS (s : St) (d : Nat) (e : Ty) (m : Md) : Option St := match look s.sl d with
  | some (.lf .nil) => cond (decide (m ≠ .fz)) (some ⟨(d, .lf (.hd s.H.length 0 none)) :: s.sl, s.H ++ [some (.arr 0 e [] m)]⟩) none
  | _ => none

/-- .. or as one that nobody writes. -/
def evNilV (s : St) (d : Nat) (e : Ty) : Option St := match look s.sl d with
  | some (.lf .nil) => some ⟨(d, .lf (.v (.sl e) [])) :: s.sl, s.H⟩
  | _ => none

def evStep (T : Tab) (n : Nat) (m : Md) (s : St) (o : Oper) : Option (Prop × St) :=
  match o.op with
  | .pick c x y => match o.guard, o.dst, opnd s.sl c with
    | none, some d, some (.lf (.v .bool b)) => match opnd s.sl (cond b x y) with
      | some v => cond (Nat.blt d n) (some (True, ⟨(d, v) :: s.sl, s.H⟩)) none
      | none => none
    | _, _, _ => none
  | _ => match evQ T n s o with
    | some (d, φ, v) => some (φ, ⟨(d, v) :: s.sl, s.H⟩)
    | none => match evNew T n s o with
      | some (d, v, H') => some (True, ⟨(d, v) :: s.sl, H'⟩)
      | none => match evLit T n s o with
        | some (d, v, H') => some (True, ⟨(d, v) :: s.sl, H'⟩)
        | none => match evApp T n s o with
          | some (d, φ, v, H') => some (φ, ⟨(d, v) :: s.sl, H'⟩)
          | none => match evStore T s o with
            | some (φ, H') => some (φ, ⟨s.sl, H'⟩)
            | none => match evMake T n m s o with
              | some (d, φ, v, H') => some (φ, ⟨(d, v) :: s.sl, H'⟩)
              | none => match evBuild T n s o with
                | some (d, v) => some (True, ⟨(d, v) :: s.sl, s.H⟩)
                | none => match evBy T n s o with
                  | some (d, v) => some (True, ⟨(d, v) :: s.sl, s.H⟩)
                  | none => match evClr T s o with
                    | some H' => some (True, ⟨s.sl, H'⟩)
                    | none => none

def evG (T : Tab) (n : Nat) (ops : Array Oper) (m : Md) (s : St) (o : Oper) : Option (Prop × St) :=
  match o.guard with
  | none => evStep T n m s o
  | some (j, want) => match ops[j]? with
    | some g => match g.dst with
      | some d => match opnd s.sl (.tmp d) with
        | some (.lf (.v .bool b)) => cond (b == want) (evStep T n m s { o with guard := none }) (match o.dst with
          | some e => cond (Nat.blt e n) (some (True, ⟨(e, .unk) :: s.sl, s.H⟩)) none
          | none => none)
        | some .unk => match o.dst with
          | some e => cond (Nat.blt e n) (some (True, ⟨(e, .unk) :: s.sl, s.H⟩)) none
          | none => none
        | _ => none
      | none => none
    | none => none

def evs (T : Tab) (n : Nat) (ops : Array Oper) (m : Md) : List Oper → St → Option (Prop × St)
  | [], s => some (True, s)
  | o :: r, s => match evG T n ops m s o with
    | some (φ, s1) => match evs T n ops m r s1 with
      | some (ψ, s2) => some (φ ∧ ψ, s2)
      | none => none
    | none => none

section
variable {P : Program} {T : Tab} {n : Nat} {w0 : World} {E0 : Env0} {s s' s'' : St} {ops : Array Oper} {Q : Exit → St → Prop} {rest : List Oper}
variable {w w' : World} {E E' : Env} {μ μ' : Nat → Value} {H H' : Heap}

theorem Gh.nilS (d : Nat) (e : Ty) (m : Md) (h : evNilS s d e m = some s') : Gh n w0 E0 s s' := by
  intro a w hs
  obtain ⟨E, μ, hA⟩ := hs.at
  have hM := hA.mr
  unfold evNilS at h
  split at h
  · rename_i hl
    cases hm : decide (m ≠ .fz) with
    | false => rw [hm] at h; simp at h
    | true =>
      rw [hm] at h
      simp only [cond_true, Option.some.injEq] at h
      subst h
      have hm' : m ≠ .fz := by simpa using hm
      obtain ⟨y, h1, ad, rfl⟩ := hA.slots d _ hl
      have hK := KpH.push (μ := μ) s.H (some (.arr 0 e [] m)) (.slice ad 0 0)
      have hS : ∀ b, E.S b → E.S b ∧ w.heap[b]? = w.heap[b]? := fun b hb => ⟨hb, rfl⟩
      refine ⟨hA.size, hA.defers, hA.apart, E, putμ μ s.H.length (.slice ad 0 0), ?_, hA.ext, fun k u hu => ?_⟩
      · refine MR.step hM hM.apart hM.ltS hM.ltκ (fun b r q h => ?_) hS hK (fun id blk h => ?_)
        · rcases hM.roots b r q h with ⟨m, h1, h2⟩ | h1
          · exact .inl ⟨m, h1, by simp; omega⟩
          · exact .inr h1
        · by_cases hid : id < s.H.length
          · rw [List.getElem?_append_left hid] at h
            exact .inl ⟨h, by simp [putμ]; omega, fun b q hq => ⟨hq, rfl⟩⟩
          · have hlt := (List.getElem?_eq_some_iff.1 h).1
            have : id = s.H.length := by simp at hlt; omega
            subst this
            simp only [List.getElem?_concat_length, Option.some.injEq] at h
            subst h
            exact .inr ⟨hm', _, rfl, .inr ⟨hm', .inl ⟨rfl, ad, by simp [putμ]⟩⟩⟩
      · rw [look_put] at hu
        split at hu
        · rename_i e
          subst e
          simp only [Option.some.injEq] at hu
          subst hu
          exact ⟨_, h1, hd_new w E _ rfl _ _ _⟩
        · obtain ⟨z, h2, h3⟩ := hA.slots k u hu
          exact ⟨z, h2, AR.keep hS hK _ _ h3⟩
  · simp at h

theorem Gh.nilV (d : Nat) (e : Ty) (h : evNilV s d e = some s') : Gh n w0 E0 s s' := by
  intro a w hs
  obtain ⟨E, μ, hA⟩ := hs.at
  unfold evNilV at h
  split at h
  · rename_i hl
    simp only [Option.some.injEq] at h
    subst h
    obtain ⟨y, h1, ad, rfl⟩ := hA.slots d _ hl
    refine ⟨hA.size, hA.defers, hA.apart, E, μ, hA.mr, hA.ext, fun k u hu => ?_⟩
    rw [look_put] at hu
    split at hu
    · rename_i e
      subst e
      simp only [Option.some.injEq] at hu
      subst hu
      exact ⟨_, h1, _, rfl, .inl ⟨rfl, .inl ⟨rfl, ad, 0, rfl⟩⟩⟩
    · exact hA.slots k u hu
  · simp at h

theorem evStep_run {m : Md} {o : Oper} {φ : Prop} (hT : TabOk P T) (h : evStep T n m s o = some (φ, s')) (hφ : φ) (k : VO P n w0 E0 ops Q rest s') : VO P n w0 E0 ops Q (o :: rest) s := by
  unfold evStep at h
  split at h
  · rename_i c x y ho
    split at h
    · rename_i d b hg hd hc
      split at h
      · rename_i v hv
        cases hb : Nat.blt d n with
        | false => rw [hb] at h; simp at h
        | true =>
          rw [hb] at h
          simp only [cond_true, Option.some.injEq, Prod.mk.injEq] at h
          obtain ⟨rfl, rfl⟩ := h
          refine VO.pick ho hg hd (by simpa [Nat.blt_eq] using hb) hc ?_ k
          cases b <;> exact hv
      · simp at h
    · simp at h
  · split at h
    · rename_i d φ' v he
      simp only [Option.some.injEq, Prod.mk.injEq] at h
      obtain ⟨rfl, rfl⟩ := h
      exact VO.q hT he hφ k
    · split at h
      · rename_i d v H' he
        simp only [Option.some.injEq, Prod.mk.injEq] at h
        obtain ⟨rfl, rfl⟩ := h
        exact VO.new hT he k
      · split at h
        · rename_i d v H' he
          simp only [Option.some.injEq, Prod.mk.injEq] at h
          obtain ⟨rfl, rfl⟩ := h
          exact VO.lit hT he k
        · split at h
          · rename_i d φ' v H' he
            simp only [Option.some.injEq, Prod.mk.injEq] at h
            obtain ⟨rfl, rfl⟩ := h
            exact VO.app hT he hφ k
          · split at h
            · rename_i φ' H' he
              simp only [Option.some.injEq, Prod.mk.injEq] at h
              obtain ⟨rfl, rfl⟩ := h
              exact VO.store hT he hφ k
            · split at h
              · rename_i d φ' v H' he
                simp only [Option.some.injEq, Prod.mk.injEq] at h
                obtain ⟨rfl, rfl⟩ := h
                exact VO.make m hT he hφ k
              · split at h
                · rename_i d v he
                  simp only [Option.some.injEq, Prod.mk.injEq] at h
                  obtain ⟨rfl, rfl⟩ := h
                  exact VO.build hT he k
                · split at h
                  · rename_i d v he
                    simp only [Option.some.injEq, Prod.mk.injEq] at h
                    obtain ⟨rfl, rfl⟩ := h
                    exact VO.by_ hT he k
                  · split at h
                    · rename_i H' he
                      simp only [Option.some.injEq, Prod.mk.injEq] at h
                      obtain ⟨rfl, rfl⟩ := h
                      exact VO.clr hT he k
                    · simp at h

theorem evG_run {m : Md} {o : Oper} {φ : Prop} (hT : TabOk P T) (h : evG T n ops m s o = some (φ, s')) (hφ : φ) (k : VO P n w0 E0 ops Q rest s') : VO P n w0 E0 ops Q (o :: rest) s := by
  unfold evG at h
  split at h
  · exact evStep_run hT h hφ k
  · rename_i j want hg
    split at h
    · rename_i g hj
      split at h
      · rename_i d hd
        split at h
        · rename_i b hb
          cases hw : b == want with
          | true =>
            rw [hw] at h
            simp only [cond_true] at h
            exact VO.on hg hj hd hb (by simpa using hw) (evStep_run hT h hφ k)
          | false =>
            rw [hw] at h
            simp only [cond_false] at h
            split at h
            · rename_i e he
              cases hn : Nat.blt e n with
              | false => rw [hn] at h; simp at h
              | true =>
                rw [hn] at h
                simp only [cond_true, Option.some.injEq, Prod.mk.injEq] at h
                obtain ⟨rfl, rfl⟩ := h
                exact VO.off hg hj hd hb (by simpa using hw) he (by simpa [Nat.blt_eq] using hn) k
            · simp at h
        · rename_i hb
          split at h
          · rename_i e he
            cases hn : Nat.blt e n with
            | false => rw [hn] at h; simp at h
            | true =>
              rw [hn] at h
              simp only [cond_true, Option.some.injEq, Prod.mk.injEq] at h
              obtain ⟨rfl, rfl⟩ := h
              exact VO.off2 hg hj hd hb he (by simpa [Nat.blt_eq] using hn) k
          · simp at h
        · simp at h
      · simp at h
    · simp at h

theorem evs_run {m : Md} (hT : TabOk P T) : ∀ {l : List Oper} {s s' : St} {φ : Prop}, evs T n ops m l s = some (φ, s') → φ → VO P n w0 E0 ops Q rest s' → VO P n w0 E0 ops Q (l ++ rest) s
  | [], s, s', φ, h, hφ, k => by
    simp only [evs, Option.some.injEq, Prod.mk.injEq] at h
    obtain ⟨rfl, rfl⟩ := h
    exact k
  | o :: l, s, s', φ, h, hφ, k => by
    simp only [evs] at h
    split at h
    · rename_i φ1 s1 h1
      split at h
      · rename_i ψ s2 h2
        simp only [Option.some.injEq, Prod.mk.injEq] at h
        obtain ⟨rfl, rfl⟩ := h
        exact evG_run hT h1 hφ.1 (evs_run hT h2 hφ.2 k)
      · simp at h
    · simp at h

/-- The first k operations; and what of it is kept. -/
def evk (T : Tab) (n : Nat) (ops : Array Oper) (m : Md) (k : Nat) (rest : List Oper) (keep π : List Nat) (s : St) : Option (Prop × St) := match evs T n ops m (rest.take k) s with
  | some (φ, s') => cond (nodup π) (some (φ, s'.ren keep π)) none
  | none => none

theorem VO.seg (hT : TabOk P T) (m : Md) (j : Nat) (keep π : List Nat) {φ : Prop} (h : evk T n ops m j rest keep π s = some (φ, s')) (hφ : φ) (k : VO P n w0 E0 ops Q (rest.drop j) s') : VO P n w0 E0 ops Q rest s := by
  unfold evk at h
  split at h
  · rename_i φ' s1 h1
    cases hn : nodup π with
    | false => rw [hn] at h; simp at h
    | true =>
      rw [hn] at h
      simp only [cond_true, Option.some.injEq, Prod.mk.injEq] at h
      obtain ⟨rfl, rfl⟩ := h
      have := evs_run (rest := rest.drop j) hT h1 hφ (VO.gh (Gh.ren keep π hn) k)
      rw [List.take_append_drop] at this
      exact this
  · simp at h

theorem VW.seqVO {id : Nat} {y : Code} (h : VO P n w0 E0 ops (thenQ (VW P n w0 E0 y Q) Q) ops.toList s) : VW P n w0 E0 (.seq (.region id ops false) y) Q s := VW.seq (VW.region h)

theorem VO.nilT {R : St → Prop} (h : R s) : VO P n w0 E0 ops (thenQ R Q) [] s := VO.nil h

/-- A region, then more. -/
theorem VW.seqRg {id : Nat} {y : Code} (hT : TabOk P T) (m : Md) (keep π : List Nat) {φ : Prop} (h : evk T n ops m ops.toList.length ops.toList keep π s = some (φ, s')) (hφ : φ) (k : VW P n w0 E0 y Q s') : VW P n w0 E0 (.seq (.region id ops false) y) Q s :=
  VW.seqVO (VO.seg hT m _ keep π h hφ (by rw [List.drop_length]; exact VO.nilT k))

theorem VW.rg {id : Nat} (hT : TabOk P T) (m : Md) (keep π : List Nat) {φ : Prop} (h : evk T n ops m ops.toList.length ops.toList keep π s = some (φ, s')) (hφ : φ) (k : Q .normal s') : VW P n w0 E0 (.region id ops false) Q s :=
  VW.region (VO.seg hT m _ keep π h hφ (by rw [List.drop_length]; exact VO.nil k))

/-- A piece of code, then more: what holds between. -/
theorem VW.join {x y : Code} (R : St → Prop) (h1 : VW P n w0 E0 x (thenQ (fun s => ∃ s', Gh n w0 E0 s s' ∧ R s') Q) s) (h2 : ∀ s, R s → VW P n w0 E0 y Q s) : VW P n w0 E0 (.seq x y) Q s := by
  refine VW.seq (h1.mono ?_)
  intro e s' h
  cases e with
  | normal => obtain ⟨s2, a1, a2⟩ := h; exact VW.gh a1 (h2 s2 a2)
  | exit id => exact h
  | goto l => exact h
  | ret => exact h
  | panic c => exact h
  | outgrown => exact h

/-! ### what a function computes: the words it is told in -/
end

def gd {α : Type} (φ : Prop) [Decidable φ] (x : Option α) : Option α := if φ then x else none
theorem gd_some {α : Type} {φ : Prop} [Decidable φ] {x : Option α} {r : α} (h : gd φ x = some r) : φ ∧ x = some r := by
  unfold gd at h
  split at h
  · rename_i hφ; exact ⟨hφ, h⟩
  · simp at h
theorem gd_true {α : Type} {φ : Prop} [Decidable φ] {x : Option α} (h : φ) : gd φ x = x := if_pos h

def andO {α β : Type} (x : Option α) (k : α → Option β) : Option β := match x with
  | some a => k a
  | none => none
theorem andO_some {α β : Type} {x : Option α} {k : α → Option β} {r : β} (h : andO x k = some r) : ∃ a, x = some a ∧ k a = some r := by
  cases x with
  | none => simp [andO] at h
  | some a => exact ⟨a, rfl, h⟩
end Go.Proofs.Ytgpddckjpokclaa.Vc
