/- A calculus of values over the model, part 26: the step over a call that writes what it is lent. It speaks of any program. -/
import Derived.Test.YtgpddckjpokclaaVc25
namespace Go.Proofs.Ytgpddckjpokclaa.Vc
open Go Go.RowKit
set_option linter.unusedVariables false
set_option linter.unusedSimpArgs false

/-- Kinds of arguments: a value (or slices that are lent), a pointer that is lent. -/
inductive AK where
  | t (t : Ty)
  | r

def lendL (H : Heap) (lent : List Nat) (t : Ty) : Lf → Option Lf
  | .hd id ver rng => some ((Lf.hd id ver rng).ren H lent)
  | .ptr id ver i j => some ((Lf.ptr id ver i j).ren H lent)
  | a => match retL H [] 0 (.v t) a with
    | some (.v t' x) => some (.v t' x)
    | _ => none

def lendLs (H : Heap) (lent : List Nat) : List Ty → List Lf → Option (List Lf)
  | [], [] => some []
  | t :: ts, a :: as => match lendL H lent t a, lendLs H lent ts as with
    | some x, some xs => some (x :: xs)
    | _, _ => none
  | _, _ => none

def lendA (H : Heap) (lent : List Nat) : AK → AV → Option AV
  | .t t, .lf a => cond t.isPair none ((lendL H lent t a).map .lf)
  | .t t, .agg l => cond t.isPair ((lendLs H lent (cellTys t) l).map .agg) none
  | .r, .lf (.ptr id ver i j) => some (.lf ((Lf.ptr id ver i j).ren H lent))
  | _, _ => none

def lendAs (s : St) (lent : List Nat) : List AK → List Operand → Option (List AV)
  | [], [] => some []
  | t :: ts, x :: xs => match opnd s.sl x with
    | some a => match lendA s.H lent t a, lendAs s lent ts xs with
      | some y, some ys => some (y :: ys)
      | _, _ => none
    | none => none
  | _, _ => none

def evArgsM (lent : List Nat) (tys : List AK) (n : Nat) (s : St) (o : Oper) : Option (Option Nat × FuncId × List AV) :=
  match o.guard, o.op with
  | none, .call c => match evCallee s c with
    | some (f, []) => match lendAs s lent tys c.args.toList with
      | some ps => match o.dst with
        | none => some (none, f, ps)
        | some d => cond (Nat.blt d n) (some (some d, f, ps)) none
      | none => none
    | _ => none
  | _, _ => none

/-- What has become of a block that was lent. -/
def bkB : Option Blk → Option Blk → Option Blk
  | some (.arr v t _ _), some (.arr _ t' xs' m') => cond (decide (t = t')) (some (.arr v t' xs' m')) none
  | some (.box l t), some (.box l' t') => cond (Nat.beq t t') (some (.box l' t')) none
  | _, _ => none

def bkH (H : Heap) (lent : List Nat) (H1 : Heap) : Heap := (List.range H.length).map fun i => match ix lent i with
  | some k => bkB ((H[i]?).getD none) ((H1[k]?).getD none)
  | none => (H[i]?).getD none

def lentOk (H : Heap) (lent : List Nat) (H1 : Heap) : Bool := nodup lent && Nat.beq H1.length lent.length && lent.all fun i => Nat.blt i H.length

/-- The environment behind such a call. -/
def bkE (E E' : Env) (lent : List Nat) (base : Nat) : Env := ⟨E'.S, fun b => match E'.κ b with
  | some (.id k, q) => some (.id (lent.getD k 0), q)
  | some (.res k, q) => some (.id (base + k), q)
  | none => match E.κ b with
    | some (.id i, q) => match ix lent i with
      | some _ => none
      | none => some (.id i, q)
    | o => o⟩

section
variable {P : Program} {T : Tab} {n : Nat} {w0 : World} {E0 : Env0} {s s' s'' : St} {ops : Array Oper} {Q : Exit → St → Prop} {rest : List Oper}
variable {w w' : World} {E E' : Env} {μ μ' : Nat → Value} {H H' : Heap}

theorem lendL_run {lent : List Nat} {k : Nat} (hM : MR w E μ H k) {t : Ty} {a p : Lf} (h : lendL H lent t a = some p) {y : Value} (hy : LR w E μ H a y) : LR w (renE E lent) (fun i => μ (lent.getD i 0)) (renH H lent) p y := by
  unfold lendL at h
  split at h
  · simp only [Option.some.injEq] at h; subst h; exact Lf.ren_LR hy
  · simp only [Option.some.injEq] at h; subst h; exact Lf.ren_LR hy
  · rename_i h1 h2
    split at h
    · rename_i t' x hr
      simp only [Option.some.injEq] at h
      subst h
      obtain ⟨x', hx, hrep⟩ := (retL_run hM hr hy).1 t rfl
      simp only [RL.v.injEq] at hx
      obtain ⟨rfl, hx⟩ := hx
      have hx := eq_of_heq hx
      subst hx
      have hS : ∀ b, (retE E []).S b → (renE E lent).S b ∨ ∃ i q, E.κ b = some (.id i, q) := fun b hb => by
        rcases hb with hb | ⟨i, q, hq, _⟩
        · exact .inl hb
        · exact .inr ⟨i, q, hq⟩
      -- the value names no block of ours
      cases a with
      | v t2 x2 =>
        simp only [retL] at hr
        split at hr
        · rename_i ht
          subst ht
          simp only [cast_eq, Option.some.injEq, RL.v.injEq, heq_eq_eq, true_and] at hr
          subst hr
          exact Rep.fz (E := E) (E' := renE E lent) (fun b hb => ⟨hb, rfl⟩) _ _ (fun _ _ _ h => h) hy
        · simp at hr
      | nil =>
        cases t' with
        | sl e =>
          simp only [retL, Option.some.injEq, RL.v.injEq, heq_eq_eq, true_and] at hr
          subst hr
          obtain ⟨ad, rfl⟩ := hy
          exact ⟨_, rfl, .inl ⟨rfl, .inl ⟨rfl, ad, 0, rfl⟩⟩⟩
        | _ => simp [retL] at hr
      | hd id ver rng => exact absurd rfl (h1 id ver rng)
      | ptr id ver i j => exact absurd rfl (h2 id ver i j)
      | fp t2 x2 j => simp [retL] at hr
      | any => simp [retL] at hr
    · simp at h

theorem lendLs_run {lent : List Nat} {k : Nat} (hM : MR w E μ H k) : ∀ {ts : List Ty} {as ps : List Lf} {ys : List Value}, lendLs H lent ts as = some ps → All2 (LR w E μ H) as ys → All2 (LR w (renE E lent) (fun i => μ (lent.getD i 0)) (renH H lent)) ps ys
  | [], [], ps, [], h, .nil => by
    simp only [lendLs, Option.some.injEq] at h
    subst h
    exact .nil
  | t :: ts, a :: as, ps, y :: ys, h, .cons h1 h2 => by
    simp only [lendLs] at h
    split at h
    · rename_i x xs e1 e2
      simp only [Option.some.injEq] at h
      subst h
      exact .cons (lendL_run hM e1 h1) (lendLs_run hM e2 h2)
    · simp at h

theorem lendA_run {lent : List Nat} {k : Nat} (hM : MR w E μ H k) {t : AK} {a p : AV} (h : lendA H lent t a = some p) {y : Value} (hy : AR w E μ H a y) : AR w (renE E lent) (fun i => μ (lent.getD i 0)) (renH H lent) p y := by
  unfold lendA at h
  split at h
  · rename_i t a
    cases hp : t.isPair with
    | true => rw [hp] at h; simp at h
    | false =>
      rw [hp] at h
      simp only [cond_false, Option.map_eq_some_iff] at h
      obtain ⟨x, h1, rfl⟩ := h
      exact lendL_run hM h1 hy
  · rename_i t l
    cases hp : t.isPair with
    | false => rw [hp] at h; simp at h
    | true =>
      rw [hp] at h
      simp only [cond_true, Option.map_eq_some_iff] at h
      obtain ⟨x, h1, rfl⟩ := h
      obtain ⟨arr, h2, h3⟩ := hy
      exact ⟨arr, h2, lendLs_run hM h1 h3⟩
  · simp only [Option.some.injEq] at h
    subst h
    exact Lf.ren_LR (a := .ptr _ _ _ _) hy
  · simp at h

theorem lendAs_run {lent : List Nat} {a : Act} (hA : At n w0 E0 s a w E μ) : ∀ {ts : List AK} {xs : List Operand} {ps : List AV}, lendAs s lent ts xs = some ps → All2 (AR w (renE E lent) (fun i => μ (lent.getD i 0)) (renH s.H lent)) ps (xs.map a.eval)
  | [], [], ps, h => by
    simp only [lendAs, Option.some.injEq] at h
    subst h
    exact .nil
  | t :: ts, x :: xs, ps, h => by
    simp only [lendAs] at h
    split at h
    · rename_i v hv
      split at h
      · rename_i y ys e1 e2
        simp only [Option.some.injEq] at h
        subst h
        exact .cons (lendA_run hA.mr e1 (hA.opnd hv)) (lendAs_run hA e2)
      · simp at h
    · simp at h

/-- Memory, its blocks named anew. -/
theorem MR.ren {π : List Nat} (hn : nodup π = true) (hM : MR w E μ H 0) : MR w (renE E π) (fun i => μ (π.getD i 0)) (renH H π) 0 := by
  have h : SRel 0 w ⟨E, fun _ => undef⟩ ⟨[], H⟩ { tmps := #[], defers := [] } w := ⟨⟨rfl, Nat.zero_le _⟩, rfl, hM.apart, E, μ, hM, Ext.refl w E, fun k v hv => by simp [look] at hv⟩
  have hκ2 : ∀ b, (renE E π).κ b ≠ none → E.κ b ≠ none := by
    intro b h e
    simp only [renE, e] at h
    exact h rfl
  refine ⟨?_, hM.ltS, fun b h => hM.ltκ b (hκ2 b h), ?_, ?_⟩
  · intro b hb
    have := hM.apart b hb
    simp only [renE, this]
  · intro b r q h
    simp only [renE] at h
    split at h
    · rename_i j q' hj
      simp only [Option.map_eq_some_iff, Prod.mk.injEq] at h
      obtain ⟨k, h1, h2, h3⟩ := h
      refine .inl ⟨k, h2.symm, ?_⟩
      have := (List.getElem?_eq_some_iff.1 (ix_some h1)).1
      simpa [renH] using this
    · rename_i hne
      rcases hM.roots b r q h with ⟨m, rfl, _⟩ | h1
      · exact absurd h (hne m q)
      · exact .inr h1
  · intro i blk h
    simp only [renH, List.getElem?_map, Option.map_eq_some_iff] at h
    obtain ⟨id, h1, h2⟩ := h
    split at h2
    · rename_i b hb
      simp only [Option.some.injEq] at h2
      subst h2
      have hN := hM.blks id b hb
      cases b with
      | box l t =>
        obtain ⟨g, arr, a1, a2, a3, a4⟩ := hN
        refine ⟨g, arr, by simpa [List.getD, h1] using a1, ?_, a3, a4.map_left fun _ _ h => Lf.ren_LR h⟩
        simp only [renE, a2, ix_of hn h1, Option.map_some]
      | arr cur t xs m =>
        refine ⟨hN.1, ?_⟩
        have e : (fun i => μ (π.getD i 0)) i = μ id := by simp [List.getD, h1]
        rw [e]
        refine Rep.move (E := E) (E' := renE E π) (fun _ => True) (fun q => q) (fun b hb => ⟨hb, rfl⟩) (fun b q _ hq => ⟨?_, rfl, fun _ => ⟨trivial, rfl⟩⟩) (.sl t) xs m _ _ _ _ (fun _ => ⟨fun _ => trivial, fun _ => rfl⟩) (fun _ _ _ h => h) hN.2
        simp only [renE, hq, ix_of hn h1, Option.map_some]
    · simp at h2

theorem bkH_at {lent : List Nat} {H1 : Heap} {i : Nat} (hi : i < H.length) : (bkH H lent H1)[i]? = some (match ix lent i with
  | some k => bkB ((H[i]?).getD none) ((H1[k]?).getD none)
  | none => (H[i]?).getD none) := by
  simp only [bkH, List.getElem?_map, List.getElem?_range hi, Option.map_some]

theorem bkH_length {lent : List Nat} {H1 : Heap} : (bkH H lent H1).length = H.length := by simp [bkH]

/-- The header of rows tells how many there are. -/
theorem head_len {r : Root} {t : Ty} {xs : List t.den} {m : Md} {p : Nat → Pos} {y : Value} (h : Rep w E r (.sl t) xs m p (at0 y)) : ∃ a c, y = .slice a xs.length c := by
  obtain ⟨v, hv, h⟩ := h
  simp only [at0, if_true, Option.some.injEq] at hv
  subst hv
  rcases h with ⟨_, ⟨rfl, a, c, rfl⟩ | ⟨b, o, c, rfl, _⟩⟩ | ⟨_, ⟨rfl, a, rfl⟩ | ⟨b, c, arr, ty, rfl, _⟩⟩
  · exact ⟨a, c, rfl⟩
  · exact ⟨_, c, rfl⟩
  · exact ⟨a, 0, rfl⟩
  · exact ⟨_, c, rfl⟩

/-- Back from a call that wrote what it was lent. -/
theorem MR.backM {lent : List Nat} {H1 : Heap} {rs : List RC} {ys : List Value} (hM : MR w E μ H 0) (hl : lentOk H lent H1 = true) (hX : Ext w (renE E lent) w' E') (hM1 : MR w' E' μ' H1 (cntC rs))
    (hμ : ∀ k blk, H1[k]? = some (some blk) → μ' k = μ (lent.getD k 0)) (hcl : ∀ (k : Nat) (l : List Lf) (t : TypeId), H1[k]? = some (some (.box l t)) → l.all Lf.closed = true) (hR : RCs w' E' 0 rs ys) :
    MR w' (bkE E E' lent H.length) (backμ μ H.length (ovalsC rs ys)) (bkH H lent H1 ++ ownsC rs) 0 ∧ Ext w E w' (bkE E E' lent H.length) ∧ (∀ b, E.S b → (bkE E E' lent H.length).S b ∧ w'.heap[b]? = w.heap[b]?) ∧ KpH μ (backμ μ H.length (ovalsC rs ys)) H (bkH H lent H1 ++ ownsC rs) ∧
      All2 (SR w' (bkE E E' lent H.length) (backμ μ H.length (ovalsC rs ys)) (bkH H lent H1 ++ ownsC rs)) (rcSV H.length 0 rs) ys := by
  simp only [lentOk, Bool.and_eq_true, List.all_eq_true] at hl
  obtain ⟨⟨hnd, hlen⟩, hlt⟩ := hl
  have hlen := Nat.eq_of_beq_eq_true hlen
  have hlt : ∀ i, i ∈ lent → i < H.length := fun i hi => by simpa [Nat.blt_eq] using hlt i hi
  -- κ of the callee's start
  have hr1 : ∀ b, E.κ b = none → (renE E lent).κ b = none := fun b h => by simp only [renE, h]
  have hr2 : ∀ b i q, E.κ b = some (.id i, q) → ix lent i = none → (renE E lent).κ b = none := fun b i q h h1 => by simp only [renE, h, h1, Option.map_none]
  have hr3 : ∀ b, (renE E lent).κ b ≠ none → ∃ i q k, E.κ b = some (.id i, q) ∧ ix lent i = some k := by
    intro b h
    simp only [renE] at h
    split at h
    · rename_i i q hq
      cases hi : ix lent i with
      | none => rw [hi] at h; simp at h
      | some k => exact ⟨i, q, k, hq, hi⟩
    · rename_i hne
      exfalso
      cases hE : E.κ b with
      | none => exact h hE
      | some x =>
        obtain ⟨r, q⟩ := x
        rcases hM.roots b r q hE with ⟨m, rfl, _⟩ | ⟨m, _, h2⟩
        · exact hne m q hE
        · omega
  have hold : ∀ b, b < w.heap.size → (renE E lent).κ b = none → E'.κ b = none ∧ w'.heap[b]? = w.heap[b]? := by
    intro b hb hn
    refine ⟨?_, hX.block b hb hn⟩
    cases hk : E'.κ b with
    | none => rfl
    | some x =>
      rcases hX.own b (by simp [hk]) with h | h
      · exact absurd hn h
      · omega
  have hS : ∀ b, E.S b → (bkE E E' lent H.length).S b ∧ w'.heap[b]? = w.heap[b]? := fun b hb => ⟨hX.grow b hb, (hold b (hM.ltS b hb) (hr1 b (hM.apart b hb))).2⟩
  have hSn : ∀ b, E'.S b → E.S b ∨ E.κ b ≠ none ∨ w.heap.size ≤ b := by
    intro b hb
    rcases hX.from_ b hb with h | h | h
    · exact .inl h
    · obtain ⟨i, q, k, h1, _⟩ := hr3 b h
      exact .inr (.inl (by simp [h1]))
    · exact .inr (.inr h)
  have hkept : ∀ b i q, E.κ b = some (.id i, q) → ix lent i = none → (bkE E E' lent H.length).κ b = some (.id i, q) ∧ w'.heap[b]? = w.heap[b]? := by
    intro b i q h h1
    obtain ⟨h2, h3⟩ := hold b (hM.ltκ b (by simp [h])) (hr2 b i q h h1)
    refine ⟨?_, h3⟩
    simp only [bkE, h2, h, h1]
  have hgive : ∀ b k q, E'.κ b = some (.id k, q) → (bkE E E' lent H.length).κ b = some (.id (lent.getD k 0), q) := fun b k q h => by simp only [bkE, h]
  have hgive2 : ∀ b k q, E'.κ b = some (.res k, q) → (bkE E E' lent H.length).κ b = some (.id (H.length + k), q) := fun b k q h => by simp only [bkE, h]
  have hκc : ∀ b, (bkE E E' lent H.length).κ b ≠ none → E'.κ b ≠ none ∨ E.κ b ≠ none := by
    intro b hb
    by_cases h1 : E'.κ b = none
    · refine .inr fun h2 => hb ?_
      simp only [bkE, h1, h2]
    · exact .inl h1
  have hget : ∀ k, k < lent.length → lent.getD k 0 < H.length ∧ ix lent (lent.getD k 0) = some k := by
    intro k hk
    have h1 : lent[k]? = some (lent.getD k 0) := by simp [List.getD, hk]
    exact ⟨hlt _ (List.mem_of_getElem? h1), ix_of hnd h1⟩
  have hl2 : (bkH H lent H1 ++ ownsC rs).length = H.length + cntC rs := by rw [List.length_append, bkH_length, ownsC_length]
  have hat : ∀ i, i < H.length → (bkH H lent H1 ++ ownsC rs)[i]? = some (match ix lent i with
    | some k => bkB ((H[i]?).getD none) ((H1[k]?).getD none)
    | none => (H[i]?).getD none) := fun i hi => by rw [List.getElem?_append_left (by rw [bkH_length]; exact hi), bkH_at hi]
  -- what was lent, as it is now
  have hback : ∀ i k blk, ix lent i = some k → bkB ((H[i]?).getD none) ((H1[k]?).getD none) = some blk → ∃ old new, H[i]? = some (some old) ∧ H1[k]? = some (some new) ∧ i < H.length ∧ lent.getD k 0 = i ∧
      ((∃ v t xs m v' xs' m', old = .arr v t xs m ∧ new = .arr v' t xs' m' ∧ blk = .arr v t xs' m' ∧ xs'.length = xs.length) ∨ ∃ l l' t, old = .box l t ∧ new = .box l' t ∧ blk = .box l' t) := by
    intro i k blk hi hb
    have hlk := ix_some hi
    have hil := hlt i (List.mem_of_getElem? hlk)
    have hgd : lent.getD k 0 = i := by simp [List.getD, hlk]
    cases hH : H[i]? with
    | none => rw [hH] at hb; simp [bkB] at hb
    | some o =>
      cases o with
      | none => rw [hH] at hb; simp [bkB] at hb
      | some old =>
        cases hH1 : H1[k]? with
        | none => rw [hH, hH1] at hb; cases old <;> simp [bkB] at hb
        | some o1 =>
          cases o1 with
          | none => rw [hH, hH1] at hb; cases old <;> simp [bkB] at hb
          | some new =>
            rw [hH, hH1] at hb
            simp only [Option.getD_some] at hb
            refine ⟨old, new, rfl, rfl, hil, hgd, ?_⟩
            cases old with
            | arr v t xs m =>
              cases new with
              | box l' t' => simp [bkB] at hb
              | arr v' t' xs' m' =>
                simp only [bkB] at hb
                by_cases ht : t = t'
                · subst ht
                  simp only [decide_true, cond_true, Option.some.injEq] at hb
                  refine .inl ⟨v, t, xs, m, v', xs', m', rfl, rfl, hb.symm, ?_⟩
                  have n1 := hM.blks i _ hH
                  have n2 := hM1.blks k _ hH1
                  obtain ⟨a1, c1, e1⟩ := head_len n1.2
                  obtain ⟨a2, c2, e2⟩ := head_len n2.2
                  rw [hμ k _ hH1, hgd, e1] at e2
                  simp only [Value.slice.injEq] at e2
                  exact e2.2.1.symm
                · simp [ht] at hb
            | box l t =>
              cases new with
              | arr v' t' xs' m' => simp [bkB] at hb
              | box l' t' =>
                simp only [bkB] at hb
                cases hbt : Nat.beq t t' with
                | false => rw [hbt] at hb; simp at hb
                | true =>
                  rw [hbt] at hb
                  have := Nat.eq_of_beq_eq_true hbt
                  subst this
                  simp only [cond_true, Option.some.injEq] at hb
                  exact .inr ⟨l, l', t, rfl, rfl, hb.symm⟩
  have hKp : KpH μ (backμ μ H.length (ovalsC rs ys)) H (bkH H lent H1 ++ ownsC rs) := by
    intro i c hc
    have hil := (List.getElem?_eq_some_iff.1 hc).1
    refine ⟨_, hat i hil, ?_⟩
    rw [backμ_old hil]
    cases hi : ix lent i with
    | none => simp only [hc, Option.getD_some]; exact Kp.refl _ _
    | some k =>
      simp only
      cases hb : bkB ((H[i]?).getD none) ((H1[k]?).getD none) with
      | none => cases c <;> trivial
      | some blk =>
        obtain ⟨old, new, h1, h2, _, _, ⟨v, t, xs, m, v', xs', m', rfl, rfl, rfl, h3⟩ | ⟨l, l', t, rfl, rfl, rfl⟩⟩ := hback i k blk hi hb
        · rw [hc] at h1
          simp only [Option.some.injEq] at h1
          subst h1
          exact .inr ⟨rfl, rfl, h3, rfl⟩
        · rw [hc] at h1
          simp only [Option.some.injEq] at h1
          subst h1
          exact rfl
  have hgiven : ∀ (i : Nat) b, (ownsC rs)[i]? = some b → (bkH H lent H1 ++ ownsC rs)[H.length + (0 + i)]? = some b ∧ (ovalsC rs ys)[i]? = some (backμ μ H.length (ovalsC rs ys) (H.length + (0 + i))) := by
    intro i b hi
    rw [Nat.zero_add]
    constructor
    · rw [List.getElem?_append_right (by rw [bkH_length]; omega), bkH_length, Nat.add_sub_cancel_left]
      exact hi
    · obtain ⟨e, xs, m, v, _, h2, _⟩ := RCs_NB hR i b hi
      rw [backμ_new h2]
      exact h2
  refine ⟨?_, ?_, hS, hKp, RCs_SR (sel := false) (E := E') (E' := bkE E E' lent H.length) (fun _ b hb => hb) hR (fun e => by simp at e) hgiven⟩
  · refine MR.step hM ?_ ?_ ?_ ?_ hS hKp ?_
    · intro b hb
      have h1 : E'.κ b = none := hM1.apart b hb
      simp only [bkE, h1]
      cases hE : E.κ b with
      | none => rfl
      | some x =>
        obtain ⟨r, q⟩ := x
        rcases hM.roots b r q hE with ⟨i, rfl, _⟩ | ⟨i, _, h2⟩
        · cases hi : ix lent i with
          | some k => simp only [hi]
          | none =>
            exfalso
            have h2 := hr2 b i q hE hi
            have h3 := hM.ltκ b (by simp [hE])
            rcases hX.from_ b hb with h | h | h
            · have := hM.apart b h; rw [hE] at this; simp at this
            · exact h h2
            · omega
        · omega
    · exact hM1.ltS
    · intro b hb
      rcases hκc b hb with h | h
      · exact hM1.ltκ b h
      · have := hM.ltκ b h; have := hX.size; omega
    · intro b r q hb
      simp only [bkE] at hb
      cases hk : E'.κ b with
      | some x =>
        obtain ⟨r0, q0⟩ := x
        rw [hk] at hb
        cases r0 with
        | id k =>
          simp only [Option.some.injEq, Prod.mk.injEq] at hb
          rcases hM1.roots b _ _ hk with ⟨m, h1, h2⟩ | ⟨m, h1, _⟩
          · simp only [Root.id.injEq] at h1
            subst h1
            have := (hget k (by omega)).1
            exact .inl ⟨_, hb.1.symm, by rw [hl2]; omega⟩
          · simp at h1
        | res k =>
          simp only [Option.some.injEq, Prod.mk.injEq] at hb
          rcases hM1.roots b _ _ hk with ⟨m, h1, _⟩ | ⟨m, h1, h2⟩
          · simp at h1
          · simp only [Root.res.injEq] at h1
            subst h1
            exact .inl ⟨_, hb.1.symm, by rw [hl2]; omega⟩
      | none =>
        rw [hk] at hb
        simp only at hb
        have : ∃ i q', E.κ b = some (.id i, q') ∧ r = .id i := by
          split at hb
          · rename_i i q' hq
            split at hb
            · simp at hb
            · simp only [Option.some.injEq, Prod.mk.injEq] at hb
              exact ⟨i, q', hq, hb.1.symm⟩
          · rename_i hne
            rcases hM.roots b r q hb with ⟨m, rfl, _⟩ | ⟨m, _, h2⟩
            · exact absurd hb (hne m q)
            · omega
        obtain ⟨i, q', h1, rfl⟩ := this
        rcases hM.roots b _ _ h1 with ⟨m, h2, h3⟩ | ⟨m, h2, _⟩
        · simp only [Root.id.injEq] at h2
          subst h2
          exact .inl ⟨i, rfl, by rw [hl2]; omega⟩
        · simp at h2
    · intro id blk h
      by_cases hid : id < H.length
      · rw [hat id hid] at h
        simp only [Option.some.injEq] at h
        cases hi : ix lent id with
        | none =>
          rw [hi] at h
          simp only at h
          refine .inl ⟨?_, backμ_old hid, fun b q hq => hkept b id q hq hi⟩
          rw [List.getElem?_eq_getElem hid] at h ⊢
          simpa using h
        | some k =>
          rw [hi] at h
          simp only at h
          have hkl : k < lent.length := (List.getElem?_eq_some_iff.1 (ix_some hi)).1
          obtain ⟨old, new, h1, h2, _, hgd, ⟨v, t, xs, m, v', xs', m', rfl, rfl, rfl, h3⟩ | ⟨l, l', t, rfl, rfl, rfl⟩⟩ := hback id k blk hi h
          · refine .inr ?_
            obtain ⟨n1, n2⟩ := hM1.blks k _ h2
            refine ⟨n1, ?_⟩
            rw [backμ_old hid]
            rw [hμ k _ h2, hgd] at n2
            refine Rep.move (E := E') (E' := bkE E E' lent H.length) (fun _ => True) (fun q => q) (fun b hb => ⟨hb, rfl⟩) (fun b q _ hq => ⟨?_, rfl, fun _ => ⟨trivial, rfl⟩⟩) (.sl t) xs' m' _ _ _ _ (fun _ => ⟨fun _ => trivial, fun _ => rfl⟩) (fun _ _ _ h => h) n2
            rw [hgive b k q hq, hgd]
          · refine .inr ?_
            obtain ⟨g, arr, a1, a2, a3, a4⟩ := hM1.blks k _ h2
            refine ⟨g, arr, ?_, ?_, a3, All2.closed (E := E') (E' := bkE E E' lent H.length) (fun b hb => hb) (hcl k _ _ h2) a4⟩
            · rw [backμ_old hid, ← a1, hμ k _ h2, hgd]
            · rw [hgive g k _ a2, hgd]
      · rw [List.getElem?_append_right (by rw [bkH_length]; omega), bkH_length] at h
        obtain ⟨e, xs, m, v, h1, h2, h3, h4, h5⟩ := RCs_NB hR _ _ h
        simp only [Option.some.injEq] at h1
        subst h1
        refine .inr ⟨h3, ?_⟩
        have hid' : H.length + (id - H.length) = id := by omega
        have hv : backμ μ H.length (ovalsC rs ys) id = v := by rw [← hid']; exact backμ_new h2
        rw [hv]
        rw [Nat.zero_add] at h4
        refine Rep.move (E := E') (E' := bkE E E' lent H.length) (fun _ => True) (fun q => q) (fun b hb => ⟨hb, rfl⟩) (fun b q _ hq => ⟨?_, rfl, fun _ => ⟨trivial, rfl⟩⟩) (.sl e) xs m _ _ _ _ (fun _ => ⟨fun _ => trivial, fun _ => rfl⟩) (fun _ _ _ h => h) h4
        rw [hgive2 b _ q hq, hid']
  · refine ⟨hX.os, hX.tape, hX.output, hX.size, fun b hb hn => hX.block b hb (hr1 b hn), fun b hb => (hS b hb).1, hSn, fun b hb => ?_⟩
    rcases hκc b hb with h | h
    · rcases hX.own b h with h1 | h1
      · obtain ⟨i, q, k, h2, _⟩ := hr3 b h1
        exact .inl (by simp [h2])
      · exact .inr h1
    · exact .inl h

def boxesClosed (H1 : Heap) : Bool := H1.all fun b => match b with
  | some (.box l _) => l.all Lf.closed
  | _ => true

/-- A call that writes what it is lent. -/
theorem renE_none {l : List Nat} (b : Nat) (h : E.κ b = none) : (renE E l).κ b = none := by
  simp only [renE, h]

theorem VO.callM (lent : List Nat) (tys : List AK) {o : Oper} {d : Option Nat} {f : FuncId} {ps : List AV} {rs : List RC} {H0 H1 : Heap} (h : evArgsM lent tys n s o = some (d, f, ps)) (hH : renH s.H lent = H0) (hc : ConM P f H0 ps rs H1)
    (hok : (lentOk s.H lent H1 && boxesClosed H1) = true) (k : VO P n w0 E0 ops Q rest ⟨putA d (resA s.H.length rs) s.sl, bkH s.H lent H1 ++ ownsC rs⟩) (ht : Tabs P w0 E0.toEnv := by assumption) : VO P n w0 E0 ops Q (o :: rest) s := by
  intro a w hs
  obtain ⟨E, μ, hA⟩ := hs.at
  subst hH
  simp only [Bool.and_eq_true] at hok
  unfold evArgsM at h
  split at h
  · rename_i c hg ho
    split at h
    · rename_i f' hcal
      split at h
      · rename_i ps' hps
        obtain ⟨x, arr, hx1, hx2, hx3⟩ : ∃ x arr, c.callee = .value x ∧ a.eval x = .func (.func f') #[] arr ∧ All2 (SR w E μ s.H) [] arr.toList := by
          unfold evCallee at hcal
          split at hcal
          · rename_i x hx
            split at hcal
            · rename_i f2 l2 hv
              simp only [Option.some.injEq, Prod.mk.injEq] at hcal
              obtain ⟨rfl, rfl⟩ := hcal
              obtain ⟨arr, h1, h2⟩ := hA.opnd hv
              exact ⟨x, arr, hx, h1, h2⟩
            · simp at hcal
          · simp at hcal
        have harr : arr = #[] := by
          have := hx3.length
          simpa using this.symm
        subst harr
        have hfin : f' = f ∧ ps = ps' ∧ o.dst = d ∧ (∀ d', d = some d' → d' < n) := by
          split at h
          · rename_i hd
            simp only [Option.some.injEq, Prod.mk.injEq] at h
            obtain ⟨rfl, rfl, rfl⟩ := h
            exact ⟨rfl, rfl, hd, by simp⟩
          · rename_i d' hd
            cases hb : Nat.blt d' n with
            | false => rw [hb] at h; simp at h
            | true =>
              rw [hb] at h
              simp only [cond_true, Option.some.injEq, Prod.mk.injEq] at h
              obtain ⟨rfl, rfl, rfl⟩ := h
              refine ⟨rfl, rfl, hd, fun d2 e => ?_⟩
              simp only [Option.some.injEq] at e
              subst e
              simpa [Nat.blt_eq] using hb
        obtain ⟨rfl, rfl, hd, hdn⟩ := hfin
        have hargs : All2 (AR w (renE E lent) (fun i => μ (lent.getD i 0)) (renH s.H lent)) ps (c.args.map a.eval ++ #[]).toList := by
          rw [Array.append_empty, Array.toList_map]
          exact lendAs_run hA hps
        have hnd : nodup lent = true := by
          have := hok.1
          simp only [lentOk, Bool.and_eq_true] at this
          exact this.1.1
        have hcall := hc.calls w (renE E lent) (fun i => μ (lent.getD i 0)) (c.args.map a.eval ++ #[]) (MR.ren hnd hA.mr) ((ht.ext hA.ext).env renE_none) hargs
        refine wpList_plain hg fun K hK => ?_
        have hrun : (execOp a.eval o).run P w = .ok (.enter f' (c.args.map a.eval ++ #[])) w := by
          simp only [execOp, ho, resolve, hx1, hx2, Deferred.ofValue, Sem.run_bind, Sem.run_pure, Result.andThen_ok, invoke, Array.empty_append, hc.enters]
        simp only [Oper.wp, hrun, Oper.upon_enter]
        refine hcall.mono ?_
        rintro e w' ⟨y, E', μ', rfl, hX, hM1, hμ, hR⟩
        simp only
        refine hK _ _ ?_
        have hcl : ∀ (k : Nat) (l : List Lf) (t : TypeId), H1[k]? = some (some (.box l t)) → l.all Lf.closed = true := by
          intro k l t hk
          have := hok.2
          simp only [boxesClosed, List.all_eq_true] at this
          exact this _ (List.mem_of_getElem? hk)
        have fin : ∀ ys, RCs w' E' 0 rs ys → (∀ μ2 E2 H2, All2 (SR w' E2 μ2 H2) (rcSV s.H.length 0 rs) ys → AR w' E2 μ2 H2 (resA s.H.length rs) y) → wpList P ops (fun e a' w' => ∃ s', SRel n w0 E0 s' a' w' ∧ Q e s') rest (a.put o.dst y) w' := by
          intro ys hRs hA2
          obtain ⟨m1, m2, m3, m4, m5⟩ := MR.backM hA.mr hok.1 hX hM1 hμ hcl hRs
          rw [hd]
          cases d with
          | none => exact k _ _ (hA.unput m1 m2 m3 m4).rel
          | some d => exact k _ _ (hA.put (hdn d rfl) m1 m2 m3 m4 (hA2 _ _ _ m5)).rel
        exact resA_of hR fin
      · simp at h
    · simp at h
  · simp at h

theorem Le.lendAs {sl sl' : List (Nat × AV)} {H : Heap} (h : Le sl sl') {lent : List Nat} : ∀ {ts : List AK} {xs : List Operand} {ps : List AV}, Vc.lendAs ⟨sl, H⟩ lent ts xs = some ps → Vc.lendAs ⟨sl', H⟩ lent ts xs = some ps
  | [], [], ps, hx => hx
  | t :: ts, x :: xs, ps, hx => by
    simp only [Vc.lendAs] at hx ⊢
    split at hx
    · rename_i a ha
      split at hx
      · rename_i y ys h1 h2
        simp only [h.opnd ha, h1, h.lendAs h2]
        exact hx
      · simp at hx
    · simp at hx

theorem Le.evArgsM {sl sl' : List (Nat × AV)} {H : Heap} (h : Le sl sl') {lent : List Nat} {tys : List AK} {o : Oper} {r : Option Nat × FuncId × List AV} (hx : Vc.evArgsM lent tys n ⟨sl, H⟩ o = some r) : Vc.evArgsM lent tys n ⟨sl', H⟩ o = some r := by
  unfold Vc.evArgsM at hx ⊢
  split at hx
  · rename_i c hg ho
    split at hx
    · rename_i f hcal
      have hcal' : evCallee ⟨sl', H⟩ c = some (f, []) := by
        unfold evCallee at hcal ⊢
        split at hcal
        · rename_i x hc
          simp only [hc]
          split at hcal
          · rename_i f2 l2 hv
            simp only [h.opnd hv]
            exact hcal
          · simp at hcal
        · simp at hcal
      rw [hcal']
      simp only
      split at hx
      · rename_i ps hps
        rw [h.lendAs hps]
        exact hx
      · simp at hx
    · simp at hx
  · simp at hx

theorem Stp.callM {view : List (Nat × AV)} {H : Heap} (lent : List Nat) (tys : List AK) {o : Oper} {d : Option Nat} {f : FuncId} {ps : List AV} {rs : List RC} {H0 H1 : Heap} (h : evArgsM lent tys n ⟨view, H⟩ o = some (d, f, ps)) (hH : renH H lent = H0) (hc : ConM P f H0 ps rs H1)
    (hok : (lentOk H lent H1 && boxesClosed H1) = true) (ht : Tabs P w0 E0.toEnv := by assumption) : Stp P n w0 E0 ops Q o view H (d.map fun d => (d, resA H.length rs)) (bkH H lent H1 ++ ownsC rs) := by
  intro sl hle
  refine VO.callM (s := ⟨sl, H⟩) lent tys (hle.evArgsM h) hH hc hok (VO.nil ?_)
  cases d <;> rfl
end
end Go.Proofs.Ytgpddckjpokclaa.Vc
