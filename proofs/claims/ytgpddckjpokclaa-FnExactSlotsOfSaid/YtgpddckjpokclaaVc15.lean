/- A calculus of values over the model, fifteenth part: calls. It speaks of any program. -/
import Derived.Test.YtgpddckjpokclaaVc14
namespace Go.Proofs.Ytgpddckjpokclaa.Vc
open Go Go.RowKit
set_option linter.unusedVariables false
set_option linter.unusedSimpArgs false

/-- f answers so, and to call it is to enter it. -/
structure Con (P : Program) (f : FuncId) (ps : List AV) (rs : List RC) : Prop where
  enters : ∀ (args : Array Value) (w : World), (callFunc f args).run P w = .ok (.enter f args) w
  calls : HC P f ps rs

theorem enters_of {P : Program} {f : FuncId} {fn : Func} {c : Code} (hf : P.funcs[f]? = some fn) (hb : fn.body = some c) (hn : fn.name ≠ "runtime.NumGoroutine") (args : Array Value) (w : World) :
    (callFunc f args).run P w = .ok (.enter f args) w := by
  simp [callFunc, hf, hb, hn]

/-- Kinds of arguments. -/
inductive PT where
  | t (t : Ty)
  | k
  | clo (l : List PT)

def cellTys : Ty → List Ty
  | .pair a b => cellTys a ++ cellTys b
  | t => [t]

/-- What the callee sees: of a slice of ours the rows, which nobody writes meanwhile. -/
def fitL (br : Bool) (H : Heap) (t : Ty) (a : Lf) : Option Lf := cond (match a with | .hd .. => br | _ => true) (match retL H [] 0 (.v t) a with
  | some (.v t' x) => some (.v t' x)
  | _ => none) none

def fitLs (br : Bool) (H : Heap) : List Ty → List Lf → Option (List Lf)
  | [], [] => some []
  | t :: ts, a :: as => match fitL br H t a, fitLs br H ts as with
    | some x, some xs => some (x :: xs)
    | _, _ => none
  | _, _ => none

def fitS (br : Bool) (H : Heap) : PT → SV → Option SV
  | .t t, .lf a => cond t.isPair none ((fitL br H t a).map .lf)
  | .t t, .agg l => cond t.isPair ((fitLs br H (cellTys t) l).map .agg) none
  | .k, .lf (.fp t x j) => some (.lf (.fp t x j))
  | _, _ => none

def fitSs (br : Bool) (H : Heap) : List PT → List SV → Option (List SV)
  | [], [] => some []
  | t :: ts, a :: as => match fitS br H t a, fitSs br H ts as with
    | some x, some xs => some (x :: xs)
    | _, _ => none
  | _, _ => none

def fitA (br : Bool) (H : Heap) : PT → AV → Option AV
  | .t t, .lf a => cond t.isPair none ((fitL br H t a).map .lf)
  | .t t, .agg l => cond t.isPair ((fitLs br H (cellTys t) l).map .agg) none
  | .clo ts, .clo f l => (fitSs br H ts l).map (.clo f)
  | .k, .lf .nil => some (.lf .nil)
  | _, _ => none

def fitAs (br : Bool) (s : St) : List PT → List Operand → Option (List AV)
  | [], [] => some []
  | t :: ts, x :: xs => match opnd s.sl x with
    | some a => match fitA br s.H t a, fitAs br s ts xs with
      | some y, some ys => some (y :: ys)
      | _, _ => none
    | none => none
  | _, _ => none

/-- No row inside is of another. -/
def Ty.selfish : Ty → Md → Bool
  | .sl t, m => decide (m ≠ .fz) && (t.flat || decide (m = .dp))
  | t, _ => t.flat

def RL.selfish : RL → Bool
  | .v t _ => t.flat
  | .own e _ m => e.flat || decide (m = .dp)

def selfish : List RC → Bool
  | [] => true
  | c :: l => c.ls.all RL.selfish && selfish l

def rlLf (base : Nat) : Nat → List RL → List Lf
  | _, [] => []
  | k, .v t x :: l => .v t x :: rlLf base k l
  | k, .own e xs m :: l => .hd (base + k) 0 none :: rlLf base (k + 1) l

def rcSV (base : Nat) : Nat → List RC → List SV
  | _, [] => []
  | k, .lf (.v t x) :: l => .lf (.v t x) :: rcSV base k l
  | k, .lf (.own e xs m) :: l => .lf (.hd (base + k) 0 none) :: rcSV base (k + 1) l
  | k, .agg c :: l => .agg (rlLf base k c) :: rcSV base (k + cnt c) l

def resA (base : Nat) (rs : List RC) : AV := match rcSV base 0 rs with
  | [c] => svAV c
  | l => .tup l

def owns : List RL → Heap
  | [] => []
  | .v _ _ :: l => owns l
  | .own e xs m :: l => some (.arr 0 e xs m) :: owns l

def ownsC : List RC → Heap
  | [] => []
  | c :: l => owns c.ls ++ ownsC l

def ovals : List RL → List Value → List Value
  | .v _ _ :: l, _ :: ys => ovals l ys
  | .own _ _ _ :: l, y :: ys => y :: ovals l ys
  | _, _ => []

def cellsV : Value → List Value
  | .agg arr => arr.toList
  | v => [v]

def ovalsC : List RC → List Value → List Value
  | .lf a :: l, y :: ys => ovals [a] [y] ++ ovalsC l ys
  | .agg c :: l, y :: ys => ovals c (cellsV y) ++ ovalsC l ys
  | _, _ => []

def evCallee (s : St) (c : Call) : Option (FuncId × List SV) := match c.callee with
  | .value x => match opnd s.sl x with
    | some (.clo f l) => some (f, l)
    | _ => none
  | _ => none

def evArgs (br : Bool) (tys cts : List PT) (n : Nat) (s : St) (o : Oper) : Option (Option Nat × FuncId × List AV) :=
  match o.guard, o.op with
  | none, .call c => match evCallee s c with
    | some (f, l) => match fitAs br s tys c.args.toList, fitSs br s.H cts l with
      | some ps, some cs => match o.dst with
        | none => some (none, f, ps ++ cs.map svAV)
        | some d => cond (Nat.blt d n) (some (some d, f, ps ++ cs.map svAV)) none
      | _, _ => none
    | none => none
  | _, _ => none

def putA (o : Option Nat) (v : AV) (sl : List (Nat × AV)) : List (Nat × AV) := match o with
  | some d => (d, v) :: sl
  | none => sl

section
variable {P : Program} {T : Tab} {n : Nat} {w0 : World} {E0 : Env0} {s : St} {ops : Array Oper} {Q : Exit → St → Prop} {rest : List Oper}
variable {w w' : World} {E E' : Env} {μ μ' : Nat → Value} {H H' : Heap}

/-- The environment that a callee sees. -/
def brE (br : Bool) (E : Env) : Env := cond br (retE E []) ⟨E.S, fun _ => none⟩

theorem brE_S {br : Bool} {b : Nat} (h : E.S b) : (brE br E).S b := by
  cases br
  · exact h
  · exact .inl h

theorem brE_κ {br : Bool} {b : Nat} : (brE br E).κ b = none := by
  cases br
  · rfl
  · simp only [brE, retE, cond_true]
    cases h : E.κ b with
    | none => rfl
    | some x => obtain ⟨r, q⟩ := x; cases r <;> rfl

theorem fitL_run {br : Bool} {k : Nat} (hM : MR w E μ H k) {t : Ty} {a p : Lf} (h : fitL br H t a = some p) {y : Value} (hy : LR w E μ H a y) : LR w (brE br E) (fun _ => undef) [] p y := by
  unfold fitL at h
  cases hb : (match a with | .hd .. => br | _ => true) with
  | false => rw [hb] at h; simp at h
  | true =>
    rw [hb] at h
    simp only [cond_true] at h
    split at h
    · rename_i t' x hr
      simp only [Option.some.injEq] at h
      subst h
      cases br with
      | true =>
        obtain ⟨x', h1, h2⟩ := (retL_run hM hr hy).1 t rfl
        simp only [RL.v.injEq] at h1
        obtain ⟨rfl, h1⟩ := h1
        cases h1
        exact h2
      | false =>
        cases a with
        | hd id ver rng => simp at hb
        | v t2 x2 =>
          simp only [retL] at hr
          split at hr
          · rename_i ht
            subst ht
            simp only [Option.some.injEq, RL.v.injEq] at hr
            obtain ⟨rfl, hr⟩ := hr
            cases hr
            have hy' : Rep w E (.res 0) t2 x2 .fz (fun _ => .top) (at0 y) := hy
            exact Rep.fz (E := E) (E' := brE false E) (fun b hb => ⟨hb, rfl⟩) t2 x2 (fun _ _ _ h => h) hy'
          · simp at hr
        | nil =>
          cases t with
          | sl e =>
            simp only [retL, Option.some.injEq, RL.v.injEq] at hr
            obtain ⟨rfl, hr⟩ := hr
            cases hr
            obtain ⟨ad, rfl⟩ := hy
            exact ⟨_, rfl, .inl ⟨rfl, .inl ⟨rfl, ad, 0, rfl⟩⟩⟩
          | _ => simp [retL] at hr
        | ptr id ver i j => cases t <;> simp [retL] at hr
        | fp t2 x2 j => cases t <;> simp [retL] at hr
        | any => cases t <;> simp [retL] at hr
    · simp at h

theorem fitLs_run {br : Bool} {k : Nat} (hM : MR w E μ H k) : ∀ {ts : List Ty} {as ps : List Lf} {ys : List Value}, fitLs br H ts as = some ps → All2 (LR w E μ H) as ys → All2 (LR w (brE br E) (fun _ => undef) []) ps ys
  | [], [], ps, [], h, .nil => by
    simp only [fitLs, Option.some.injEq] at h
    subst h
    exact .nil
  | t :: ts, a :: as, ps, y :: ys, h, .cons h1 h2 => by
    simp only [fitLs] at h
    split at h
    · rename_i x xs e1 e2
      simp only [Option.some.injEq] at h
      subst h
      exact .cons (fitL_run hM e1 h1) (fitLs_run hM e2 h2)
    · simp at h

theorem fitS_run {br : Bool} {k : Nat} (hM : MR w E μ H k) {t : PT} {a p : SV} (h : fitS br H t a = some p) {y : Value} (hy : SR w E μ H a y) : SR w (brE br E) (fun _ => undef) [] p y := by
  unfold fitS at h
  split at h
  · rename_i t a
    cases hp : t.isPair with
    | true => rw [hp] at h; simp at h
    | false =>
      rw [hp] at h
      simp only [cond_false, Option.map_eq_some_iff] at h
      obtain ⟨x, h1, rfl⟩ := h
      exact fitL_run hM h1 hy
  · rename_i t l
    cases hp : t.isPair with
    | false => rw [hp] at h; simp at h
    | true =>
      rw [hp] at h
      simp only [cond_true, Option.map_eq_some_iff] at h
      obtain ⟨x, h1, rfl⟩ := h
      obtain ⟨arr, rfl, h2⟩ := hy
      exact ⟨arr, rfl, fitLs_run hM h1 h2⟩
  · rename_i t x j
    simp only [Option.some.injEq] at h
    subst h
    obtain ⟨b, o, h1, h2, h3⟩ := hy
    exact ⟨b, o, h1, brE_S h2, Rep.fz (E := E) (E' := brE br E) (fun b hb => ⟨brE_S hb, rfl⟩) t x (fun _ _ _ h => h) h3⟩
  · simp at h

theorem fitSs_run {br : Bool} {k : Nat} (hM : MR w E μ H k) : ∀ {ts : List PT} {as ps : List SV} {ys : List Value}, fitSs br H ts as = some ps → All2 (SR w E μ H) as ys → All2 (SR w (brE br E) (fun _ => undef) []) ps ys
  | [], [], ps, [], h, .nil => by
    simp only [fitSs, Option.some.injEq] at h
    subst h
    exact .nil
  | t :: ts, a :: as, ps, y :: ys, h, .cons h1 h2 => by
    simp only [fitSs] at h
    split at h
    · rename_i x xs e1 e2
      simp only [Option.some.injEq] at h
      subst h
      exact .cons (fitS_run hM e1 h1) (fitSs_run hM e2 h2)
    · simp at h

theorem fitA_run {br : Bool} {k : Nat} (hM : MR w E μ H k) {t : PT} {a p : AV} (h : fitA br H t a = some p) {y : Value} (hy : AR w E μ H a y) : AR w (brE br E) (fun _ => undef) [] p y := by
  unfold fitA at h
  split at h
  · rename_i t a
    cases hp : t.isPair with
    | true => rw [hp] at h; simp at h
    | false =>
      rw [hp] at h
      simp only [cond_false, Option.map_eq_some_iff] at h
      obtain ⟨x, h1, rfl⟩ := h
      exact fitL_run hM h1 hy
  · rename_i t l
    cases hp : t.isPair with
    | false => rw [hp] at h; simp at h
    | true =>
      rw [hp] at h
      simp only [cond_true, Option.map_eq_some_iff] at h
      obtain ⟨x, h1, rfl⟩ := h
      obtain ⟨arr, rfl, h2⟩ := hy
      exact ⟨arr, rfl, fitLs_run hM h1 h2⟩
  · rename_i ts f l
    simp only [Option.map_eq_some_iff] at h
    obtain ⟨x, h1, rfl⟩ := h
    obtain ⟨arr, rfl, h2⟩ := hy
    exact ⟨arr, rfl, fitSs_run hM h1 h2⟩
  · simp only [Option.some.injEq] at h
    subst h
    exact hy
  · simp at h

theorem fitAs_run {br : Bool} {a : Act} (hA : At n w0 E0 s a w E μ) : ∀ {ts : List PT} {xs : List Operand} {ps : List AV}, fitAs br s ts xs = some ps → All2 (AR w (brE br E) (fun _ => undef) []) ps (xs.map a.eval)
  | [], [], ps, h => by
    simp only [fitAs, Option.some.injEq] at h
    subst h
    exact .nil
  | t :: ts, x :: xs, ps, h => by
    simp only [fitAs] at h
    split at h
    · rename_i v hv
      split at h
      · rename_i y ys e1 e2
        simp only [Option.some.injEq] at h
        subst h
        exact .cons (fitA_run hA.mr e1 (hA.opnd hv)) (fitAs_run hA e2)
      · simp at h
    · simp at h

theorem Rep.noS : ∀ {t : Ty} {x : t.den} {m : Md} {r : Root} {p : Nat → Pos} {g : Nat → Option Value} {S : Nat → Prop}, (m = .dp ∨ t.flat = true) → Rep w E r t x m p g → Rep w ⟨S, E.κ⟩ r t x m p g
  | .int _, _, _, _, _, _, _, _, h => h
  | .bool, _, _, _, _, _, _, _, h => h
  | .str, _, _, _, _, _, _, _, h => h
  | .pair a b, x, m, _, _, _, _, hf, h => by
    have h1 : m = .dp ∨ a.flat = true := by
      rcases hf with hf | hf
      · exact .inl hf
      · simp only [Ty.flat, Bool.and_eq_true] at hf; exact .inr hf.1
    have h2 : m = .dp ∨ b.flat = true := by
      rcases hf with hf | hf
      · exact .inl hf
      · simp only [Ty.flat, Bool.and_eq_true] at hf; exact .inr hf.2
    exact ⟨Rep.noS h1 h.1, Rep.noS h2 h.2⟩
  | .sl t, xs, m, _, _, _, _, hf, h => by
    have hm : m = .dp := by
      rcases hf with hf | hf
      · exact hf
      · simp [Ty.flat] at hf
    subst hm
    obtain ⟨v, h0, h⟩ := h
    refine ⟨v, h0, ?_⟩
    rcases h with ⟨hm, _⟩ | ⟨hm, h⟩
    · simp at hm
    · refine .inr ⟨hm, ?_⟩
      rcases h with h | ⟨b, c, arr, ty, hv, hc, hb, hs, hk, h⟩
      · exact .inl h
      · exact .inr ⟨b, c, arr, ty, hv, hc, hb, hs, hk, fun i hi => Rep.noS (.inl rfl) (h i hi)⟩

theorem Rep.noS_sl {e : Ty} {xs : List e.den} {m : Md} {r : Root} {p : Nat → Pos} {g : Nat → Option Value} {S : Nat → Prop} (hf : e.flat = true ∨ m = .dp) (h : m ≠ .fz) (hr : Rep w E r (.sl e) xs m p g) : Rep w ⟨S, E.κ⟩ r (.sl e) xs m p g := by
  obtain ⟨v, h0, hr⟩ := hr
  refine ⟨v, h0, ?_⟩
  rcases hr with ⟨hm, _⟩ | ⟨hm, hr⟩
  · exact absurd hm h
  · refine .inr ⟨hm, ?_⟩
    rcases hr with hr | ⟨b, c, arr, ty, hv, hc, hb, hs, hk, hr⟩
    · exact .inl hr
    · refine .inr ⟨b, c, arr, ty, hv, hc, hb, hs, hk, fun i hi => Rep.noS ?_ (hr i hi)⟩
      rcases hf with hf | rfl
      · exact .inr hf
      · exact .inl rfl

theorem owns_length : ∀ ls : List RL, (owns ls).length = cnt ls
  | [] => rfl
  | .v _ _ :: l => by simp [owns, cnt, owns_length l]
  | .own _ _ _ :: l => by simp [owns, cnt, owns_length l]

theorem ownsC_length : ∀ rs : List RC, (ownsC rs).length = cntC rs
  | [] => rfl
  | c :: l => by simp [ownsC, cntC, owns_length, ownsC_length l]

theorem ovals_length : ∀ {k : Nat} {ls : List RL} {ys : List Value}, RLs w E k ls ys → (ovals ls ys).length = cnt ls
  | _, [], [], _ => rfl
  | _, .v _ _ :: l, _ :: ys, h => by simp [ovals, cnt, ovals_length h.2]
  | _, .own _ _ _ :: l, _ :: ys, h => by simp [ovals, cnt, ovals_length h.2]
  | _, [], _ :: _, h => h.elim
  | _, .v _ _ :: _, [], h => h.elim
  | _, .own _ _ _ :: _, [], h => h.elim

/-- What a leaf of a result is to the caller. -/
structure Given (w : World) (E : Env) (w' : World) (E' : Env) (μ : Nat → Value) (H : Heap) (base k : Nat) (ls : Heap) (vs : List Value) : Prop where
  at_ : ∀ (i : Nat) b, ls[i]? = some b → H[base + (k + i)]? = some b ∧ vs[i]? = some (μ (base + (k + i)))

theorem RLs_LR {base : Nat} {sel : Bool} (hS : sel = false → ∀ b, E.S b → E'.S b) : ∀ {k : Nat} {ls : List RL} {ys : List Value}, RLs w E k ls ys → (sel = true → ls.all RL.selfish = true) →
    (∀ (i : Nat) b, (owns ls)[i]? = some b → H[base + (k + i)]? = some b ∧ (ovals ls ys)[i]? = some (μ (base + (k + i)))) → All2 (LR w E' μ H) (rlLf base k ls) ys
  | _, [], [], _, _, _ => .nil
  | k, .v t x :: l, y :: ys, h, hs, hg => by
    refine .cons ?_ (RLs_LR hS h.2 (fun e => by have := hs e; simp at this; simp; exact this.2) (fun i b hi => hg i b hi))
    cases sel with
    | true =>
      have hf := hs rfl
      simp only [List.all_cons, RL.selfish, Bool.and_eq_true] at hf
      exact Rep.flat hf.1 h.1
    | false => exact Rep.fz (fun b hb => ⟨hS rfl b hb, rfl⟩) t x (fun _ _ _ h => h) h.1
  | k, .own e xs m :: l, y :: ys, h, hs, hg => by
    obtain ⟨g1, g2⟩ := hg 0 _ rfl
    refine .cons ?_ (RLs_LR hS h.2 (fun e => by have := hs e; simp at this; simp; exact this.2) (fun i b hi => ?_))
    · simp only [ovals, List.getElem?_cons_zero, Option.some.injEq, Nat.add_zero] at g2
      simp only [Nat.add_zero] at g1
      have h1 : y.oneCell' = true := rep_sl_one h.1.2 (by simp [at0])
      simp only [LR, g1, HdR, h1, true_and, Nat.le_refl]
      intro _
      exact g2
    · have := hg (i + 1) b (by simpa [owns] using hi)
      rw [show base + (k + 1 + i) = base + (k + (i + 1)) by omega]
      simpa [ovals] using this
  | _, [], _ :: _, h, _, _ => h.elim
  | _, .v _ _ :: _, [], h, _, _ => h.elim
  | _, .own _ _ _ :: _, [], h, _, _ => h.elim

theorem RLs_NB : ∀ {k : Nat} {ls : List RL} {ys : List Value}, RLs w E k ls ys → ∀ (i : Nat) b, (owns ls)[i]? = some b → ∃ e xs m v, b = some (.arr 0 e xs m) ∧ (ovals ls ys)[i]? = some v ∧ m ≠ .fz ∧ Rep w E (.res (k + i)) (.sl e) xs m (fun _ => .top) (at0 v) ∧ (ls.all RL.selfish = true → e.flat = true ∨ m = .dp)
  | _, [], [], _, i, b, hi => by simp [owns] at hi
  | k, .v t x :: l, y :: ys, h, i, b, hi => by
    obtain ⟨e, xs, m, v, h1, h2, h3, h4, h5⟩ := RLs_NB h.2 i b hi
    exact ⟨e, xs, m, v, h1, h2, h3, h4, fun hs => h5 (by simp at hs; simp; exact hs.2)⟩
  | k, .own e xs m :: l, y :: ys, h, 0, b, hi => by
    simp only [owns, List.getElem?_cons_zero, Option.some.injEq] at hi
    exact ⟨e, xs, m, y, hi.symm, rfl, h.1.1, h.1.2, fun hs => by simp [RL.selfish] at hs; exact hs.1⟩
  | k, .own e xs m :: l, y :: ys, h, i + 1, b, hi => by
    obtain ⟨e, xs, m, v, h1, h2, h3, h4, h5⟩ := RLs_NB h.2 i b (by simpa [owns] using hi)
    exact ⟨e, xs, m, v, h1, by simpa [ovals] using h2, h3, by rw [show k + (i + 1) = k + 1 + i by omega]; exact h4, fun hs => h5 (by simp at hs; simp; exact hs.2)⟩
  | _, [], _ :: _, h, _, _, _ => h.elim
  | _, .v _ _ :: _, [], h, _, _, _ => h.elim
  | _, .own _ _ _ :: _, [], h, _, _, _ => h.elim

theorem ovalsC_length : ∀ {k : Nat} {rs : List RC} {ys : List Value}, RCs w E k rs ys → (ovalsC rs ys).length = cntC rs
  | _, [], [], _ => rfl
  | k, .lf a :: l, y :: ys, h => by simp only [ovalsC, cntC, List.length_append, ovals_length h.1, ovalsC_length h.2, RC.ls]
  | k, .agg c :: l, y :: ys, h => by
    obtain ⟨⟨arr, rfl, h1⟩, h2⟩ := h
    simp only [ovalsC, cellsV, cntC, List.length_append, ovals_length h1, ovalsC_length h2, RC.ls]
  | _, [], _ :: _, h => h.elim
  | _, .lf _ :: _, [], h => h.elim
  | _, .agg _ :: _, [], h => h.elim

theorem RCs_NB : ∀ {k : Nat} {rs : List RC} {ys : List Value}, RCs w E k rs ys → ∀ (i : Nat) b, (ownsC rs)[i]? = some b → ∃ e xs m v, b = some (.arr 0 e xs m) ∧ (ovalsC rs ys)[i]? = some v ∧ m ≠ .fz ∧ Rep w E (.res (k + i)) (.sl e) xs m (fun _ => .top) (at0 v) ∧ (selfish rs = true → e.flat = true ∨ m = .dp)
  | _, [], [], _, i, b, hi => by simp [ownsC] at hi
  | k, c :: l, y :: ys, h, i, b, hi => by
    have key : ∀ vs : List Value, RLs w E k c.ls vs → RCs w E (k + cnt c.ls) l ys → ∃ e xs m v, b = some (.arr 0 e xs m) ∧ (ovals c.ls vs ++ ovalsC l ys)[i]? = some v ∧ m ≠ .fz ∧ Rep w E (.res (k + i)) (.sl e) xs m (fun _ => .top) (at0 v) ∧ (selfish (c :: l) = true → e.flat = true ∨ m = .dp) := by
      intro vs h1 h2
      simp only [ownsC] at hi
      by_cases hlt : i < cnt c.ls
      · rw [List.getElem?_append_left (by rw [owns_length]; exact hlt)] at hi
        obtain ⟨e, xs, m, v, a1, a2, a3, a4, a5⟩ := RLs_NB h1 i b hi
        refine ⟨e, xs, m, v, a1, ?_, a3, a4, fun hs => a5 ?_⟩
        · rw [List.getElem?_append_left (by rw [ovals_length h1]; exact hlt)]
          exact a2
        · simp only [selfish, Bool.and_eq_true] at hs
          exact hs.1
      · rw [List.getElem?_append_right (by rw [owns_length]; omega), owns_length] at hi
        obtain ⟨e, xs, m, v, a1, a2, a3, a4, a5⟩ := RCs_NB h2 _ b hi
        refine ⟨e, xs, m, v, a1, ?_, a3, ?_, fun hs => a5 ?_⟩
        · rw [List.getElem?_append_right (by rw [ovals_length h1]; omega), ovals_length h1]
          exact a2
        · rw [show k + cnt c.ls + (i - cnt c.ls) = k + i by omega] at a4
          exact a4
        · simp only [selfish, Bool.and_eq_true] at hs
          exact hs.2
    cases c with
    | lf a => exact key [y] h.1 h.2
    | agg c =>
      obtain ⟨⟨arr, rfl, h1⟩, h2⟩ := h
      exact key arr.toList h1 h2
  | _, [], _ :: _, h, _, _, _ => h.elim
  | _, .lf _ :: _, [], h, _, _, _ => h.elim
  | _, .agg _ :: _, [], h, _, _, _ => h.elim

theorem RCs_SR {base : Nat} {sel : Bool} (hS : sel = false → ∀ b, E.S b → E'.S b) : ∀ {k : Nat} {rs : List RC} {ys : List Value}, RCs w E k rs ys → (sel = true → selfish rs = true) →
    (∀ (i : Nat) b, (ownsC rs)[i]? = some b → H[base + (k + i)]? = some b ∧ (ovalsC rs ys)[i]? = some (μ (base + (k + i)))) → All2 (SR w E' μ H) (rcSV base k rs) ys
  | _, [], [], _, _, _ => .nil
  | k, c :: l, y :: ys, h, hs, hg => by
    have hs1 : sel = true → c.ls.all RL.selfish = true := fun e => by have := hs e; simp only [selfish, Bool.and_eq_true] at this; exact this.1
    have hs2 : sel = true → selfish l = true := fun e => by have := hs e; simp only [selfish, Bool.and_eq_true] at this; exact this.2
    have key : ∀ vs : List Value, RLs w E k c.ls vs → RCs w E (k + cnt c.ls) l ys → ovalsC (c :: l) (y :: ys) = ovals c.ls vs ++ ovalsC l ys → All2 (LR w E' μ H) (rlLf base k c.ls) vs ∧ All2 (SR w E' μ H) (rcSV base (k + cnt c.ls) l) ys := by
      intro vs h1 h2 he
      constructor
      · refine RLs_LR hS h1 hs1 (fun i b hi => ?_)
        have hlt := (List.getElem?_eq_some_iff.1 hi).1
        rw [owns_length] at hlt
        have := hg i b (by simp only [ownsC]; rw [List.getElem?_append_left (by rw [owns_length]; exact hlt)]; exact hi)
        rw [he, List.getElem?_append_left (by rw [ovals_length h1]; exact hlt)] at this
        exact this
      · refine RCs_SR hS h2 hs2 (fun i b hi => ?_)
        have := hg (cnt c.ls + i) b (by simp only [ownsC]; rw [List.getElem?_append_right (by rw [owns_length]; omega), owns_length, Nat.add_sub_cancel_left]; exact hi)
        rw [he, List.getElem?_append_right (by rw [ovals_length h1]; omega), ovals_length h1, Nat.add_sub_cancel_left] at this
        rw [show k + cnt c.ls + i = k + (cnt c.ls + i) by omega]
        exact this
    cases c with
    | lf a =>
      obtain ⟨a1, a2⟩ := key [y] h.1 h.2 rfl
      cases a with
      | v t x =>
        simp only [RC.ls, rlLf] at a1
        obtain _ | ⟨a1, _⟩ := a1
        exact .cons a1 a2
      | own e xs m =>
        simp only [RC.ls, rlLf] at a1
        obtain _ | ⟨a1, _⟩ := a1
        exact .cons a1 a2
    | agg c =>
      obtain ⟨⟨arr, rfl, h1⟩, h2⟩ := h
      obtain ⟨a1, a2⟩ := key arr.toList h1 h2 rfl
      exact .cons ⟨arr, rfl, a1⟩ a2
  | _, [], _ :: _, h, _, _ => h.elim
  | _, .lf _ :: _, [], h, _, _ => h.elim
  | _, .agg _ :: _, [], h, _, _ => h.elim

/-- The environment behind a call: what was handed out is ours under new names. -/
def backE (br : Bool) (E E' : Env) (base : Nat) : Env := ⟨cond br E.S E'.S, fun b => match E'.κ b with
  | some (.res k, q) => some (.id (base + k), q)
  | _ => E.κ b⟩

def backμ (μ : Nat → Value) (base : Nat) (vs : List Value) : Nat → Value := fun i => if i < base then μ i else vs.getD (i - base) undef

theorem backμ_old {base : Nat} {vs : List Value} {i : Nat} (h : i < base) : backμ μ base vs i = μ i := by simp [backμ, h]
theorem backμ_new {base : Nat} {vs : List Value} {i : Nat} {v : Value} (h : vs[i]? = some v) : backμ μ base vs (base + i) = v := by
  simp only [backμ, List.getD, show ¬ base + i < base by omega, if_false, Nat.add_sub_cancel_left, h, Option.getD_some]

/-- Back from a call. -/
theorem MR.back {br : Bool} {rs : List RC} {ys : List Value} (hM : MR w E μ H 0) (hX : Ext w (brE br E) w' E') (hap : ∀ b, E'.S b → E'.κ b = none) (hlS : ∀ b, E'.S b → b < w'.heap.size) (hlκ : ∀ b, E'.κ b ≠ none → b < w'.heap.size)
    (hro : ∀ b r q, E'.κ b = some (r, q) → ∃ n, r = .res n ∧ n < cntC rs) (hR : RCs w' E' 0 rs ys) (hsel : br = true → selfish rs = true) :
    MR w' (backE br E E' H.length) (backμ μ H.length (ovalsC rs ys)) (H ++ ownsC rs) 0 ∧ Ext w E w' (backE br E E' H.length) ∧ (∀ b, E.S b → (backE br E E' H.length).S b ∧ w'.heap[b]? = w.heap[b]?) ∧ KpH μ (backμ μ H.length (ovalsC rs ys)) H (H ++ ownsC rs) ∧
      All2 (SR w' (backE br E E' H.length) (backμ μ H.length (ovalsC rs ys)) (H ++ ownsC rs)) (rcSV H.length 0 rs) ys := by
  have hnew : ∀ b, E'.κ b ≠ none → w.heap.size ≤ b := fun b hb => by
    rcases hX.own b hb with h | h
    · exact absurd brE_κ h
    · exact h
  have hold : ∀ b, E.κ b ≠ none → E'.κ b = none := fun b hb => by
    cases h : E'.κ b with
    | none => rfl
    | some x => have h1 := hnew b (by simp [h]); have h2 := hM.ltκ b hb; omega
  have hkeep : ∀ b, b < w.heap.size → w'.heap[b]? = w.heap[b]? := fun b hb => hX.block b hb brE_κ
  have hS : ∀ b, E.S b → (backE br E E' H.length).S b ∧ w'.heap[b]? = w.heap[b]? := fun b hb => by
    refine ⟨?_, hkeep b (hM.ltS b hb)⟩
    cases br
    · exact hX.grow b hb
    · exact hb
  have hSn : ∀ b, (backE br E E' H.length).S b → E.S b ∨ (br = false ∧ E'.S b ∧ w.heap.size ≤ b) := by
    intro b hb
    cases br with
    | true => exact .inl hb
    | false =>
      rcases hX.from_ b hb with h | h | h
      · exact .inl h
      · exact absurd brE_κ h
      · exact .inr ⟨rfl, hb, h⟩
  have hκκ : ∀ b i q, E.κ b = some (.id i, q) → (backE br E E' H.length).κ b = some (.id i, q) := by
    intro b i q h
    simp only [backE, hold b (by simp [h]), h]
  have hKp : KpH μ (backμ μ H.length (ovalsC rs ys)) H (H ++ ownsC rs) := by
    intro i c hc
    have hlt := (List.getElem?_eq_some_iff.1 hc).1
    refine ⟨c, by rw [List.getElem?_append_left hlt]; exact hc, ?_⟩
    rw [backμ_old hlt]
    exact Kp.refl _ _
  have hgiven : ∀ (i : Nat) b, (ownsC rs)[i]? = some b → (H ++ ownsC rs)[H.length + (0 + i)]? = some b ∧ (ovalsC rs ys)[i]? = some (backμ μ H.length (ovalsC rs ys) (H.length + (0 + i))) := by
    intro i b hi
    rw [Nat.zero_add]
    constructor
    · rw [List.getElem?_append_right (by omega), Nat.add_sub_cancel_left]
      exact hi
    · obtain ⟨e, xs, m, v, _, h2, _⟩ := RCs_NB hR i b hi
      rw [backμ_new h2]
      exact h2
  refine ⟨?_, ?_, hS, hKp, RCs_SR (sel := br) (fun e b hb => by subst e; exact hb) hR hsel hgiven⟩
  · refine MR.step hM ?_ ?_ ?_ ?_ hS hKp ?_
    · intro b hb
      rcases hSn b hb with h | ⟨rfl, h1, h2⟩
      · have h0 := hM.apart b h
        have : E'.κ b = none := by
          cases hk : E'.κ b with
          | none => rfl
          | some x => have := hnew b (by simp [hk]); have := hM.ltS b h; omega
        simp only [backE, this, h0]
      · simp only [backE, hap b h1]
        cases hk : E.κ b with
        | none => rfl
        | some x => have := hM.ltκ b (by simp [hk]); omega
    · intro b hb
      rcases hSn b hb with h | ⟨_, h1, _⟩
      · have := hM.ltS b h; have := hX.size; omega
      · exact hlS b h1
    · intro b hb
      simp only [backE] at hb
      split at hb
      · rename_i k q hk
        exact hlκ b (by simp [hk])
      · have := hM.ltκ b hb; have := hX.size; omega
    · intro b r q hb
      simp only [backE] at hb
      split at hb
      · rename_i k q' hk
        simp only [Option.some.injEq, Prod.mk.injEq] at hb
        obtain ⟨n, hn, hlt⟩ := hro b _ _ hk
        simp only [Root.res.injEq] at hn
        subst hn
        exact .inl ⟨_, hb.1.symm, by rw [List.length_append, ownsC_length]; omega⟩
      · rcases hM.roots b r q hb with ⟨m, h1, h2⟩ | h1
        · exact .inl ⟨m, h1, by rw [List.length_append]; omega⟩
        · exact .inr h1
    · intro id blk h
      by_cases hid : id < H.length
      · rw [List.getElem?_append_left hid] at h
        exact .inl ⟨h, backμ_old hid, fun b q hq => ⟨hκκ b id q hq, hkeep b (hM.ltκ b (by simp [hq]))⟩⟩
      · rw [List.getElem?_append_right (by omega)] at h
        obtain ⟨e, xs, m, v, h1, h2, h3, h4, h5⟩ := RCs_NB hR _ _ h
        simp only [Option.some.injEq] at h1
        subst h1
        refine .inr ⟨h3, ?_⟩
        have hid' : H.length + (id - H.length) = id := by omega
        have hv : backμ μ H.length (ovalsC rs ys) id = v := by rw [← hid']; exact backμ_new h2
        rw [hv]
        have mv : ∀ S : Nat → Prop, (∀ b, S b → (backE br E E' H.length).S b) → Rep w' ⟨S, E'.κ⟩ (.res (id - H.length)) (.sl e) xs m (fun _ => .top) (at0 v) → Rep w' (backE br E E' H.length) (.id id) (.sl e) xs m (fun _ => .top) (at0 v) := by
          intro S hS2 hr
          refine Rep.move (E := ⟨S, E'.κ⟩) (fun _ => True) (fun q => q) (fun b hb => ⟨hS2 b hb, rfl⟩) (fun b q _ hq => ⟨?_, rfl, fun _ => ⟨trivial, rfl⟩⟩) (.sl e) xs m _ _ _ _ (fun _ => ⟨fun _ => trivial, fun _ => rfl⟩) (fun _ _ _ h => h) hr
          simp only [backE]
          rw [show E'.κ b = some (.res (id - H.length), q) from hq]
          simp only [hid']
        rw [Nat.zero_add] at h4
        cases br with
        | false => exact mv E'.S (fun b hb => hb) h4
        | true => exact mv (fun _ => False) (fun b hb => hb.elim) (Rep.noS_sl (h5 (hsel rfl)) h3 h4)
  · refine ⟨hX.os, hX.tape, hX.output, hX.size, fun b hb _ => hkeep b hb, fun b hb => (hS b hb).1, fun b hb => ?_, fun b hb => ?_⟩
    · rcases hSn b hb with h | ⟨_, _, h⟩
      · exact .inl h
      · exact .inr (.inr h)
    · simp only [backE] at hb
      split at hb
      · rename_i k q hk
        exact .inr (hnew b (by simp [hk]))
      · exact .inl hb

/-- How a call's result stands in its slot. -/
theorem resA_of {base : Nat} {rs : List RC} {y : Value} (hR : RR w' E' rs y) {C : Prop} (fin : ∀ ys, RCs w' E' 0 rs ys → (∀ μ2 E2 H2, All2 (SR w' E2 μ2 H2) (rcSV base 0 rs) ys → AR w' E2 μ2 H2 (resA base rs) y) → C) : C := by
  unfold RR at hR
  split at hR
  · rename_i c1
    refine fin [y] hR (fun μ2 E2 H2 h2 => ?_)
    unfold resA
    cases c1 with
    | lf a1 =>
      cases a1 with
      | v t x => simp only [rcSV] at h2 ⊢; obtain _ | ⟨h2, _⟩ := h2; exact h2
      | own e xs m => simp only [rcSV] at h2 ⊢; obtain _ | ⟨h2, _⟩ := h2; exact h2
    | agg l1 => simp only [rcSV] at h2 ⊢; obtain _ | ⟨h2, _⟩ := h2; exact h2
  · rename_i hne
    obtain ⟨arr2, rfl, hR⟩ := hR
    refine fin arr2.toList hR (fun μ2 E2 H2 h2 => ?_)
    unfold resA
    split
    · rename_i c1 hc1
      exfalso
      have : ∀ (k : Nat) (rs : List RC), (rcSV base k rs).length = rs.length := by
        intro k rs
        induction rs generalizing k with
        | nil => rfl
        | cons c l ih =>
          cases c with
          | lf a1 => cases a1 <;> simp [rcSV, ih]
          | agg l1 => simp [rcSV, ih]
      have h3 := this 0 rs
      rw [hc1] at h3
      match rs, h3, hne with
      | [c], _, hne => exact hne c rfl
    · exact ⟨arr2, rfl, h2⟩

/-- A call. br: the callee may see what is ours (and then hands out nothing that is another's). -/
theorem VO.call (br : Bool) (tys cts : List PT) {o : Oper} {d : Option Nat} {f : FuncId} {ps : List AV} {rs : List RC} (hT : TabOk P T) (h : evArgs br tys cts n s o = some (d, f, ps)) (hc : Con P f ps rs) (hsel : (cond br (selfish rs) true) = true)
    (k : VO P n w0 E0 ops Q rest ⟨putA d (resA s.H.length rs) s.sl, s.H ++ ownsC rs⟩) (ht : Tabs P w0 E0.toEnv := by assumption) : VO P n w0 E0 ops Q (o :: rest) s := by
  intro a w hs
  obtain ⟨E, μ, hA⟩ := hs.at
  unfold evArgs at h
  split at h
  · rename_i c hg ho
    split at h
    · rename_i f' l hcal
      split at h
      · rename_i ps' cs' hps hcs
        -- the callee
        obtain ⟨x, arr, hx1, hx2, hx3⟩ : ∃ x arr, c.callee = .value x ∧ a.eval x = .func (.func f') #[] arr ∧ All2 (SR w E μ s.H) l arr.toList := by
          unfold evCallee at hcal
          split at hcal
          · rename_i x hx
            split at hcal
            · rename_i f2 l2 hv
              simp only [Option.some.injEq, Prod.mk.injEq] at hcal
              obtain ⟨rfl, rfl⟩ := hcal
              obtain ⟨arr, h1, h2⟩ := hA.opnd hv
              exact ⟨x, arr, hx, h1, h2⟩
            · simp at hcal
          · simp at hcal
        have hfin : f' = f ∧ ps = ps' ++ cs'.map svAV ∧ o.dst = d ∧ (∀ d', d = some d' → d' < n) := by
          split at h
          · rename_i hd
            simp only [Option.some.injEq, Prod.mk.injEq] at h
            obtain ⟨rfl, rfl, rfl⟩ := h
            exact ⟨rfl, rfl, hd, by simp⟩
          · rename_i d' hd
            cases hb : Nat.blt d' n with
            | false => rw [hb] at h; simp at h
            | true =>
              rw [hb] at h
              simp only [cond_true, Option.some.injEq, Prod.mk.injEq] at h
              obtain ⟨rfl, rfl, rfl⟩ := h
              refine ⟨rfl, rfl, hd, fun d2 e => ?_⟩
              simp only [Option.some.injEq] at e
              subst e
              simpa [Nat.blt_eq] using hb
        obtain ⟨rfl, rfl, hd, hdn⟩ := hfin
        have hsel' : br = true → selfish rs = true := fun e => by subst e; exact hsel
        have hargs : All2 (AR w (brE br E) (fun _ => undef) []) (ps' ++ cs'.map svAV) (c.args.map a.eval ++ arr).toList := by
          rw [Array.toList_append, Array.toList_map]
          refine (fitAs_run hA hps).append ?_
          have h2 := fitSs_run (br := br) hA.mr hcs hx3
          have : ∀ {xs : List SV} {ys : List Value}, All2 (SR w (brE br E) (fun _ => undef) []) xs ys → All2 (AR w (brE br E) (fun _ => undef) []) (xs.map svAV) ys := by
            intro xs ys h
            induction h with
            | nil => exact .nil
            | cons h1 _ ih => exact .cons (svAV_AR h1) ih
          exact this h2
        have hlt : ∀ b, (brE br E).S b → b < w.heap.size := by
          intro b hb
          cases br with
          | false => exact hA.mr.ltS b hb
          | true =>
            rcases hb with hb | ⟨i, q, hq, _⟩
            · exact hA.mr.ltS b hb
            · exact hA.mr.ltκ b (by simp [hq])
        have hcall := hc.calls w (brE br E) (c.args.map a.eval ++ arr) (fun b => brE_κ) hlt ((ht.ext hA.ext).env (fun b _ => brE_κ)) hargs
        refine wpList_plain hg fun K hK => ?_
        have hrun : (execOp a.eval o).run P w = .ok (.enter f' (c.args.map a.eval ++ arr)) w := by
          simp only [execOp, ho, resolve, hx1, hx2, Deferred.ofValue, Sem.run_bind, Sem.run_pure, Result.andThen_ok, invoke, Array.empty_append, hc.enters]
        simp only [Oper.wp, hrun, Oper.upon_enter]
        refine hcall.mono ?_
        rintro e w' ⟨y, E', rfl, hX, hap, hlS, hlκ, hro, hR⟩
        simp only
        refine hK _ _ ?_
        have fin : ∀ ys, RCs w' E' 0 rs ys → (∀ μ2 E2 H2, All2 (SR w' E2 μ2 H2) (rcSV s.H.length 0 rs) ys → AR w' E2 μ2 H2 (resA s.H.length rs) y) → wpList P ops (fun e a' w' => ∃ s', SRel n w0 E0 s' a' w' ∧ Q e s') rest (a.put o.dst y) w' := by
          intro ys hRs hA2
          obtain ⟨m1, m2, m3, m4, m5⟩ := MR.back hA.mr hX hap hlS hlκ hro hRs hsel'
          rw [hd]
          cases d with
          | none => exact k _ _ (hA.unput m1 m2 m3 m4).rel
          | some d => exact k _ _ (hA.put (hdn d rfl) m1 m2 m3 m4 (hA2 _ _ _ m5)).rel
        exact resA_of hR fin
      · simp at h
    · simp at h
  · simp at h
end
end Go.Proofs.Ytgpddckjpokclaa.Vc
