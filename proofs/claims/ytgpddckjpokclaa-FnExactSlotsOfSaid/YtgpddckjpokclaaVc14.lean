/- A calculus of values over the model, fourteenth part: contracts, and the way out of a function. It speaks of any program. -/
import Derived.Test.YtgpddckjpokclaaVc13
namespace Go.Proofs.Ytgpddckjpokclaa.Vc
open Go Go.RowKit
set_option linter.unusedVariables false
set_option linter.unusedSimpArgs false

/-- A cell of a result: a value that nobody writes, or a slice that is the caller's from now on. -/
inductive RL where
  | v (t : Ty) (x : t.den)
  | own (e : Ty) (xs : List e.den) (m : Md)

inductive RC where
  | lf (a : RL)
  | agg (l : List RL)

def cnt : List RL → Nat
  | [] => 0
  | .v _ _ :: l => cnt l
  | .own _ _ _ :: l => cnt l + 1

def RC.ls : RC → List RL
  | .lf a => [a]
  | .agg l => l

def cntC : List RC → Nat
  | [] => 0
  | c :: l => cnt c.ls + cntC l

/-- Cells of results in memory; k: how many slices stand ahead that are the caller's. -/
def RLs (w : World) (E : Env) : Nat → List RL → List Value → Prop
  | _, [], [] => True
  | k, .v t x :: l, y :: ys => Rep w E (.res 0) t x .fz (fun _ => .top) (at0 y) ∧ RLs w E k l ys
  | k, .own e xs m :: l, y :: ys => (m ≠ .fz ∧ Rep w E (.res k) (.sl e) xs m (fun _ => .top) (at0 y)) ∧ RLs w E (k + 1) l ys
  | _, _, _ => False

def RCs (w : World) (E : Env) : Nat → List RC → List Value → Prop
  | _, [], [] => True
  | k, .lf a :: l, y :: ys => RLs w E k [a] [y] ∧ RCs w E (k + cnt [a]) l ys
  | k, .agg c :: l, y :: ys => (∃ arr : Array Value, y = .agg arr ∧ RLs w E k c arr.toList) ∧ RCs w E (k + cnt c) l ys
  | _, _, _ => False

def RR (w : World) (E : Env) (rs : List RC) (y : Value) : Prop :=
  match rs with
  | [c] => RCs w E 0 [c] [y]
  | rs => ∃ arr : Array Value, y = .tuple arr ∧ RCs w E 0 rs arr.toList

/-- The library's table of powers lies as it was laid, and nobody writes it. -/
def Tabs (P : Program) (w : World) (E : Env) : Prop :=
  ∀ g, P.globalNamed "internal/strconv.uint64pow10" = some g → E.κ g = none ∧ g < w.heap.size ∧ w.var? P "internal/strconv.uint64pow10" = some (([1, 10, 100, 1000, 10000, 100000, 1000000, 10000000, 100000000, 1000000000, 10000000000, 100000000000, 1000000000000, 10000000000000, 100000000000000, 1000000000000000, 10000000000000000, 100000000000000000, 1000000000000000000, 10000000000000000000] : List Int).map fun z => Value.int .u64 z).toArray

theorem Tabs.ext {P : Program} {w w' : World} {E E' : Env} (h : Tabs P w E) (hX : Ext w E w' E') : Tabs P w' E' := by
  intro g hg
  obtain ⟨h1, h2, h3⟩ := h g hg
  have hb := hX.block g h2 h1
  refine ⟨?_, Nat.lt_of_lt_of_le h2 hX.size, ?_⟩
  · cases hk : E'.κ g with
    | none => rfl
    | some x =>
      rcases hX.own g (by simp [hk]) with h4 | h4
      · exact absurd h1 h4
      · omega
  · simp only [World.var?, hg, Option.bind_some] at h3 ⊢
    rw [hb]
    exact h3

theorem Tabs.env {P : Program} {w : World} {E E' : Env} (h : Tabs P w E) (hκ : ∀ b, E.κ b = none → E'.κ b = none) : Tabs P w E' := fun g hg => ⟨hκ g (h g hg).1, (h g hg).2⟩

theorem Tabs.free {P : Program} {w : World} {E : Env} (h : P.globalNamed "internal/strconv.uint64pow10" = none) : Tabs P w E := fun g hg => by rw [h] at hg; cases hg

/-- What a call of f answers to these arguments, whatever the memory. -/
def HC (P : Program) (f : FuncId) (ps : List AV) (rs : List RC) : Prop :=
  ∀ (w : World) (E : Env) (args : Array Value), (∀ b, E.κ b = none) → (∀ b, E.S b → b < w.heap.size) → Tabs P w E → All2 (AR w E (fun _ => undef) []) ps args.toList →
    Calls P f args w fun e w' => ∃ y E', e = .returned y ∧ Ext w E w' E' ∧ (∀ b, E'.S b → E'.κ b = none) ∧ (∀ b, E'.S b → b < w'.heap.size) ∧ (∀ b, E'.κ b ≠ none → b < w'.heap.size) ∧
      (∀ b r q, E'.κ b = some (r, q) → ∃ n, r = .res n ∧ n < cntC rs) ∧ RR w' E' rs y

/-! ### the way out -/
inductive WL where
  | v (t : Ty)
  | own (e : Ty) (m : Md)

inductive WC where
  | lf (a : WL)
  | agg (l : List WL)

/-- The place of an id among those that are handed out. -/
def pos : List (Option Nat) → Nat → Option Nat
  | [], _ => none
  | o :: l, i => cond (match o with | some j => Nat.beq j i | none => false) (some 0) ((pos l i).map (· + 1))

def retL (H : Heap) (ids : List (Option Nat)) (k : Nat) : WL → Lf → Option RL
  | .v t, .v t' x => if h : t' = t then some (.v t (cast (congrArg Ty.den h) x)) else none
  | .v (.sl e), .nil => some (.v (.sl e) [])
  | .v (.sl e), .hd id ver rng => match pos ids id with
    | none => match H[id]? with
      | some (some (.arr cur e' xs m)) => cond (Nat.beq ver cur) ((castL e' e (match rng with | none => xs | some (o, l) => (xs.drop o).take l)).map fun ys => .v (.sl e) ys) none
      | _ => none
    | some _ => none
  | .own e m, .nil => cond (decide (m ≠ .fz)) (some (.own e [] m)) none
  | .own e m, .hd id ver none => match pos ids id with
    | some k' => cond (Nat.beq k' k) (match H[id]? with
      | some (some (.arr cur e' xs m')) => cond (Nat.beq ver cur && decide (m' = m)) ((castL e' e xs).map fun ys => .own e ys m) none
      | _ => none) none
    | none => none
  | _, _ => none

def retLs (H : Heap) (ids : List (Option Nat)) : Nat → List WL → List Lf → Option (List RL)
  | _, [], [] => some []
  | k, .v t :: ws, a :: as => match retL H ids k (.v t) a, retLs H ids k ws as with
    | some r, some rs => some (r :: rs)
    | _, _ => none
  | k, .own e m :: ws, a :: as => match retL H ids k (.own e m) a, retLs H ids (k + 1) ws as with
    | some r, some rs => some (r :: rs)
    | _, _ => none
  | _, _, _ => none

def cntW : List WL → Nat
  | [] => 0
  | .v _ :: l => cntW l
  | .own _ _ :: l => cntW l + 1

def resAV (T : Tab) (s : St) : ResultVar → Option AV
  | .tmp t => opnd s.sl (.tmp t)
  | .cell a ty => match T ty, opnd s.sl (.tmp a) with
    | some ti, some (.lf (.ptr id _ _ j)) => match s.H[id]? with
      | some (some (.box l _)) => takeAs ti l j
      | _ => none
    | _, _ => none

def retCs (T : Tab) (s : St) (ids : List (Option Nat)) : Nat → List WC → List ResultVar → Option (List RC)
  | _, [], [] => some []
  | k, .lf a :: ws, r :: rs => match resAV T s r with
    | some (.lf l) => match retLs s.H ids k [a] [l], retCs T s ids (k + cntW [a]) ws rs with
      | some [x], some xs => some (.lf x :: xs)
      | _, _ => none
    | _ => none
  | k, .agg c :: ws, r :: rs => match resAV T s r with
    | some (.agg l) => match retLs s.H ids k c l, retCs T s ids (k + cntW c) ws rs with
      | some x, some xs => some (.agg x :: xs)
      | _, _ => none
    | _ => none
  | _, _, _ => none

section
variable {P : Program} {T : Tab} {n : Nat} {w0 : World} {E0 : Env0} {s : St} {ops : Array Oper} {Q : Exit → St → Prop} {rest : List Oper}
variable {w w' : World} {E E' : Env} {μ μ' : Nat → Value} {H H' : Heap}

/-- The environment behind a return. -/
def retE (E : Env) (ids : List (Option Nat)) : Env :=
  ⟨fun b => E.S b ∨ ∃ i q, E.κ b = some (.id i, q) ∧ pos ids i = none, fun b => match E.κ b with
    | some (.id i, q) => (pos ids i).map fun k => (.res k, q)
    | _ => none⟩

theorem retL_run {ids : List (Option Nat)} {k j : Nat} (hM : MR w E μ H j) {wl : WL} {a : Lf} {r : RL} (h : retL H ids k wl a = some r) {y : Value} (hy : LR w E μ H a y) :
    (∀ t, wl = .v t → ∃ x, r = .v t x ∧ Rep w (retE E ids) (.res 0) t x .fz (fun _ => .top) (at0 y)) ∧
    (∀ e m, wl = .own e m → ∃ xs, r = .own e xs m ∧ m ≠ .fz ∧ Rep w (retE E ids) (.res k) (.sl e) xs m (fun _ => .top) (at0 y)) := by
  have hS : ∀ b, E.S b → (retE E ids).S b ∧ w.heap[b]? = w.heap[b]? := fun b hb => ⟨.inl hb, rfl⟩
  unfold retL at h
  split at h
  · rename_i t t' x
    split at h
    · rename_i ht
      subst ht
      simp only [Option.some.injEq] at h
      subst h
      refine ⟨fun t e => ?_, fun e m h => by simp at h⟩
      simp only [WL.v.injEq] at e
      subst e
      exact ⟨x, rfl, Rep.fz hS t' x (fun _ _ _ h => h) hy⟩
    · simp at h
  · rename_i e
    simp only [Option.some.injEq] at h
    subst h
    refine ⟨fun t e' => ?_, fun e m h => by simp at h⟩
    simp only [WL.v.injEq] at e'
    subst e'
    obtain ⟨ad, rfl⟩ := hy
    exact ⟨[], rfl, _, rfl, .inl ⟨rfl, .inl ⟨rfl, ad, 0, rfl⟩⟩⟩
  · rename_i e id ver rng
    split at h
    · rename_i hp
      split at h
      · rename_i cur e' xs m hH
        cases hv : Nat.beq ver cur with
        | false => rw [hv] at h; simp at h
        | true =>
          rw [hv] at h
          simp only [cond_true, Option.map_eq_some_iff] at h
          obtain ⟨ys, h1, rfl⟩ := h
          obtain ⟨rfl, rfl⟩ := castL_eq h1
          refine ⟨fun t e => ?_, fun e m h => by simp at h⟩
          simp only [WL.v.injEq] at e
          subst e
          refine ⟨_, rfl, ?_⟩
          simp only [cast_eq]
          have hκ : ∀ b q, E.κ b = some (.id id, q) → (retE E ids).S b ∧ w.heap[b]? = w.heap[b]? := fun b q hq => ⟨.inr ⟨id, q, hq, hp⟩, rfl⟩
          simp only [LR, hH] at hy
          have hy' := hy.2.2 (Nat.eq_of_beq_eq_true hv)
          obtain ⟨hm, ha⟩ := hM.arr hH
          cases rng with
          | none =>
            simp only [HdR] at hy'
            subst hy'
            have := hM.blks id _ hH
            exact Rep.freeze hS hκ (.sl e') xs m _ _ _ _ (fun _ _ _ h => h) this.2
          | some ol =>
            obtain ⟨o, l⟩ := ol
            replace hy' := HdR.old hy'
            rcases hy' with ⟨rfl, ad, c, rfl⟩ | ⟨b, c, c', f1, rfl, f3, f4⟩
            · exact ⟨_, rfl, .inl ⟨rfl, .inl ⟨by simp, ad, c, rfl⟩⟩⟩
            · rcases ha with ⟨rfl, ad, ha⟩ | ⟨b', c2, arr, ty, g1, g2, g3, g4, g5, g6⟩
              · simp at f3
                obtain ⟨rfl, rfl⟩ := f3
                exact ⟨_, rfl, .inl ⟨rfl, .inl ⟨by simp, _, _, rfl⟩⟩⟩
              · rw [f1] at g1
                simp only [Value.slice.injEq, Option.some.injEq, Addr.mk.injEq, and_true] at g1
                obtain ⟨rfl, _, _⟩ := g1
                have hlen : ((xs.drop o).take l).length = l := by simp; omega
                refine ⟨_, rfl, .inl ⟨rfl, .inr ⟨b, o * e'.lv, c', by rw [hlen], by rw [hlen]; exact f4, .inr ⟨id, _, g5, hp⟩, fun i hi => ?_⟩⟩⟩
                have hi' : i < l := by rw [hlen] at hi; exact hi
                have hx : ((xs.drop o).take l)[i] = xs[o + i] := by simp
                rw [hx]
                refine Rep.freeze hS hκ e' _ m.nest _ _ _ _ (fun j v _ hv => ?_) (g6 (o + i) (by omega))
                rw [show o * e'.lv + i * e'.lv + j = (o + i) * e'.lv + j by rw [Nat.add_mul]]
                exact hv
      · simp at h
    · simp at h
  · rename_i e m
    cases hm : decide (m ≠ .fz) with
    | false => rw [hm] at h; simp at h
    | true =>
      rw [hm] at h
      simp only [cond_true, Option.some.injEq] at h
      subst h
      have hm' : m ≠ .fz := by simpa using hm
      refine ⟨fun t h => by simp at h, fun e' m' h => ?_⟩
      simp only [WL.own.injEq] at h
      obtain ⟨rfl, rfl⟩ := h
      obtain ⟨ad, rfl⟩ := hy
      exact ⟨[], rfl, hm', _, rfl, .inr ⟨hm', .inl ⟨rfl, ad, rfl⟩⟩⟩
  · rename_i e m id ver
    split at h
    · rename_i k' hp
      cases hk : Nat.beq k' k with
      | false => rw [hk] at h; simp at h
      | true =>
        rw [hk] at h
        have hkk := Nat.eq_of_beq_eq_true hk
        subst hkk
        simp only [cond_true] at h
        split at h
        · rename_i cur e' xs m' hH
          cases hc : (Nat.beq ver cur && decide (m' = m)) with
          | false => rw [hc] at h; simp at h
          | true =>
            rw [hc] at h
            simp only [Bool.and_eq_true, decide_eq_true_eq] at hc
            obtain ⟨hv, rfl⟩ := hc
            simp only [cond_true, Option.map_eq_some_iff] at h
            obtain ⟨ys, h1, rfl⟩ := h
            obtain ⟨rfl, rfl⟩ := castL_eq h1
            refine ⟨fun t h => by simp at h, fun e2 m2 h => ?_⟩
            simp only [WL.own.injEq] at h
            obtain ⟨rfl, rfl⟩ := h
            simp only [LR, hH] at hy
            have hy' := hy.2.2 (Nat.eq_of_beq_eq_true hv)
            simp only [HdR] at hy'
            subst hy'
            have := hM.blks id _ hH
            refine ⟨_, rfl, this.1, ?_⟩
            refine Rep.move (fun _ => True) (fun q => q) hS (fun b q _ hq => ⟨?_, rfl, fun _ => ⟨trivial, rfl⟩⟩) (.sl e') _ m' _ _ _ _ (fun _ => ⟨fun _ => trivial, fun _ => rfl⟩) (fun _ _ _ h => h) this.2
            simp only [retE, hq, hp, Option.map_some]
        · simp at h
    · simp at h
  · simp at h

theorem retLs_run {ids : List (Option Nat)} {j : Nat} (hM : MR w E μ H j) : ∀ {wls : List WL} {as : List Lf} {k : Nat} {rs : List RL} {ys : List Value}, retLs H ids k wls as = some rs → All2 (LR w E μ H) as ys → RLs w (retE E ids) k rs ys ∧ cnt rs = cntW wls
  | [], [], k, rs, [], h, .nil => by
    simp only [retLs, Option.some.injEq] at h
    subst h
    exact ⟨trivial, rfl⟩
  | .v t :: ws, a :: as, k, rs, y :: ys, h, .cons h1 h2 => by
    simp only [retLs] at h
    split at h
    · rename_i r rs' e1 e2
      simp only [Option.some.injEq] at h
      subst h
      obtain ⟨x, rfl, hx⟩ := (retL_run hM e1 h1).1 t rfl
      obtain ⟨a1, a2⟩ := retLs_run hM e2 h2
      exact ⟨⟨hx, a1⟩, a2⟩
    · simp at h
  | .own e m :: ws, a :: as, k, rs, y :: ys, h, .cons h1 h2 => by
    simp only [retLs] at h
    split at h
    · rename_i r rs' e1 e2
      simp only [Option.some.injEq] at h
      subst h
      obtain ⟨x, rfl, hx⟩ := (retL_run hM e1 h1).2 e m rfl
      obtain ⟨a1, a2⟩ := retLs_run hM e2 h2
      exact ⟨⟨hx, a1⟩, by simp [cnt, cntW, a2]⟩
    · simp at h

theorem resAV_run (hT : TabOk P T) {a : Act} (hA : At n w0 E0 s a w E μ) {r : ResultVar} {v : AV} (h : resAV T s r = some v) :
    ∃ y, (match r with
      | .tmp t => (pure (a.tmps.getD t undef) : Sem Value)
      | .cell x t => do loadVar t (← asAddr (a.tmps.getD x undef))).run P w = .ok y w ∧ AR w E μ s.H v y := by
  cases r with
  | tmp t =>
    obtain ⟨y, h1, h2⟩ := hA.tmp h
    exact ⟨y, by simp [Array.getD_eq_getD_getElem?, h1], h2⟩
  | cell x ty =>
    simp only [resAV] at h
    split at h
    · rename_i ti id ver i j hi hx
      split at h
      · rename_i l tid hH
        obtain ⟨y, h1, h2⟩ := hA.tmp hx
        simp only [AR, LR, hH] at h2
        obtain ⟨_, b, h3, rfl⟩ := h2
        obtain ⟨b', arr, f1, f2, f3, f4⟩ := hA.mr.blks id _ hH
        rw [h3] at f1
        simp only [Value.pointer.injEq, Option.some.injEq, Addr.mk.injEq, and_true] at f1
        subst f1
        obtain ⟨z, h5, h6⟩ := takeAs_run hT hi h (b := b) (o := 0) (w := w) (E := E) (μ := μ) (H := s.H) (fun k a ha => by
          obtain ⟨y, q1, q2⟩ := f4.get k a ha
          refine ⟨y, ?_, q2⟩
          simp only [cellAt, World.cell?, f3, Option.isSome_none, Bool.false_eq_true, if_false, Nat.zero_add]
          rw [← Array.getElem?_toList]
          exact q1)
        refine ⟨z, ?_, h6⟩
        simp only [Nat.zero_add] at h5
        have e1 : a.tmps.getD x undef = .pointer (some ⟨b, j, none⟩) := by simp [Array.getD_eq_getD_getElem?, h1]
        simp only [Sem.run_bind, e1, asAddr, Sem.run_pure, Result.andThen_ok, h5]
      · simp at h
    · simp at h

def argSl : Nat → List AV → List (Nat × AV)
  | _, [] => []
  | i, p :: ps => (i, p) :: argSl (i + 1) ps

theorem argSl_look : ∀ (ps : List AV) (i k : Nat) (v : AV), look (argSl i ps) k = some v → i ≤ k ∧ ps[k - i]? = some v
  | [], _, _, _, h => by simp [argSl, look] at h
  | p :: ps, i, k, v, h => by
    simp only [argSl, look_put] at h
    split at h
    · rename_i e
      subst e
      exact ⟨Nat.le_refl _, by simpa using h⟩
    · obtain ⟨h1, h2⟩ := argSl_look ps (i + 1) k v h
      exact ⟨by omega, by rw [show k - i = (k - (i + 1)) + 1 by omega]; simpa using h2⟩


theorem retCs_run (hT : TabOk P T) {a : Act} (hA : At n w0 E0 s a w E μ) {ids : List (Option Nat)} (f : ResultVar → Sem Value) (hf1 : ∀ t, f (.tmp t) = pure (a.tmps.getD t undef)) (hf2 : ∀ x t, f (.cell x t) = (do loadVar t (← asAddr (a.tmps.getD x undef)))) :
    ∀ {ws : List WC} {rvs : List ResultVar} {k : Nat} {rs : List RC}, retCs T s ids k ws rvs = some rs → ∃ ys, (rvs.mapM f).run P w = .ok ys w ∧ RCs w (retE E ids) k rs ys ∧ ys.length = rs.length
  | [], [], k, rs, h => by
    simp only [retCs, Option.some.injEq] at h
    subst h
    exact ⟨[], by simp, trivial, rfl⟩
  | .lf wl :: ws, r :: rvs, k, rs, h => by
    simp only [retCs] at h
    split at h
    · rename_i l hl
      split at h
      · rename_i x xs e1 e2
        simp only [Option.some.injEq] at h
        subst h
        obtain ⟨y, h1, h2⟩ := resAV_run hT hA hl
        obtain ⟨ys, h3, h4, h5⟩ := retCs_run hT hA f hf1 hf2 e2
        obtain ⟨a1, a2⟩ := retLs_run hA.mr e1 (.cons h2 .nil)
        refine ⟨y :: ys, ?_, ⟨a1, by rw [a2]; exact h4⟩, by simp [h5]⟩
        rw [List.mapM_cons]
        cases r with
        | tmp t => rw [hf1]; simp only [Sem.run_bind, h1, Result.andThen_ok, h3, Sem.run_pure]
        | cell x t => rw [hf2]; simp only [Sem.run_bind] at h1 ⊢; simp only [h1, Result.andThen_ok, h3, Sem.run_pure]
      · simp at h
    · simp at h
  | .agg wl :: ws, r :: rvs, k, rs, h => by
    simp only [retCs] at h
    split at h
    · rename_i l hl
      split at h
      · rename_i x xs e1 e2
        simp only [Option.some.injEq] at h
        subst h
        obtain ⟨y, h1, h2⟩ := resAV_run hT hA hl
        obtain ⟨ys, h3, h4, h5⟩ := retCs_run hT hA f hf1 hf2 e2
        obtain ⟨arr, rfl, h2⟩ := h2
        obtain ⟨a1, a2⟩ := retLs_run hA.mr e1 h2
        refine ⟨.agg arr :: ys, ?_, ⟨⟨arr, rfl, a1⟩, by rw [a2]; exact h4⟩, by simp [h5]⟩
        rw [List.mapM_cons]
        cases r with
        | tmp t => rw [hf1]; simp only [Sem.run_bind, h1, Result.andThen_ok, h3, Sem.run_pure]
        | cell x t => rw [hf2]; simp only [Sem.run_bind] at h1 ⊢; simp only [h1, Result.andThen_ok, h3, Sem.run_pure]
      · simp at h
    · simp at h

theorem pos_lt : ∀ {ids : List (Option Nat)} {i k : Nat}, pos ids i = some k → k < ids.length
  | [], _, _, h => by simp [pos] at h
  | o :: l, i, k, h => by
    simp only [pos] at h
    cases hc : (match o with | some j => Nat.beq j i | none => false) with
    | true => rw [hc] at h; simp only [cond_true, Option.some.injEq] at h; subst h; simp
    | false =>
      rw [hc] at h
      simp only [cond_false, Option.map_eq_some_iff] at h
      obtain ⟨k', h1, rfl⟩ := h
      have := pos_lt h1
      simp; omega

/-- What must hold where a function ends. -/
def retQ (T : Tab) (rvs : List ResultVar) (ws : List WC) (rs : List RC) : Exit → St → Prop
  | .normal, s | .ret, s => ∃ ids, retCs T s ids 0 ws rvs = some rs ∧ ids.length ≤ cntC rs
  | _, _ => False

theorem HC.intro {f : FuncId} {fn : Func} {c : Code} {ps : List AV} {rs : List RC} (ws : List WC) (hT : TabOk P T) (hf : P.funcs[f]? = some fn) (hb : fn.body = some c) (hn : ps.length ≤ fn.ntmps) (hg : fn.ntmps ≤ gb)
    (h : ∀ w0 E0, Tabs P w0 E0.toEnv → VW P fn.ntmps w0 E0 c (retQ T fn.results.toList ws rs) ⟨argSl 0 ps, []⟩) : HC P f ps rs := by
  intro w E args hκ hlt ht hargs
  refine calls_of_wp hf hb ?_
  have hal := hargs.length
  simp only [Array.length_toList] at hal
  have hs : SRel fn.ntmps w ⟨E, fun _ => undef⟩ ⟨argSl 0 ps, []⟩ { tmps := args ++ Array.replicate (fn.ntmps - args.size) undef, defers := [] } w := by
    refine ⟨⟨by simp; omega, hg⟩, rfl, fun b _ => hκ b, E, fun _ => undef, ⟨fun b _ => hκ b, hlt, fun b hb => absurd (hκ b) hb, fun b r q hq => by rw [hκ] at hq; simp at hq, fun id blk hi => by simp at hi⟩, Ext.refl w E, fun k v hv => ?_⟩
    obtain ⟨_, h2⟩ := argSl_look ps 0 k v hv
    simp only [Nat.sub_zero] at h2
    obtain ⟨y, h3, h4⟩ := hargs.get k v h2
    refine ⟨y, ?_, h4⟩
    have hk := (List.getElem?_eq_some_iff.1 h3).1
    simp only [Array.length_toList] at hk
    rw [getS_lt (by omega), Array.getElem?_append_left hk, ← Array.getElem?_toList]
    exact h3
  refine wp_mono (h w ⟨E, fun _ => undef⟩ ht _ _ hs) ?_
  rintro e a' w' ⟨s', h1, h2⟩
  have fin : (∃ ids, retCs T s' ids 0 ws fn.results.toList = some rs ∧ ids.length ≤ cntC rs) → a'.defers = [] ∧ ∃ v, (results fn a'.tmps).run P w' = .ok v w' ∧ ∃ y E', Ending.returned v = .returned y ∧ Ext w E w' E' ∧ (∀ b, E'.S b → E'.κ b = none) ∧ (∀ b, E'.S b → b < w'.heap.size) ∧ (∀ b, E'.κ b ≠ none → b < w'.heap.size) ∧
      (∀ b r q, E'.κ b = some (r, q) → ∃ n, r = .res n ∧ n < cntC rs) ∧ RR w' E' rs y := by
    rintro ⟨ids, hr, hlen⟩
    obtain ⟨E1, μ, hA⟩ := h1.at
    refine ⟨hA.defers, ?_⟩
    obtain ⟨ys, h3, h4, h5⟩ := retCs_run (ids := ids) (k := 0) hT hA (fun
      | .tmp t => pure (a'.tmps.getD t undef)
      | .cell a t => do loadVar t (← asAddr (a'.tmps.getD a undef))) (fun _ => rfl) (fun _ _ => rfl) hr
    have key : ∀ F : ResultVar → Sem Value, (∀ t, F (.tmp t) = pure (a'.tmps.getD t undef)) → (∀ x t, F (.cell x t) = (do loadVar t (← asAddr (a'.tmps.getD x undef)))) → (fn.results.toList.mapM F).run P w' = .ok ys w' := by
      intro F g1 g2
      have e : F = (fun
          | .tmp t => pure (a'.tmps.getD t undef)
          | .cell a t => do loadVar t (← asAddr (a'.tmps.getD a undef))) := by
        funext r
        cases r with
        | tmp t => exact g1 t
        | cell x t => exact g2 x t
      rw [e]
      exact h3
    have hrun : (results fn a'.tmps).run P w' = .ok (if h : ys.length = 1 then ys[0] else .tuple ys.toArray) w' := by
      unfold results
      rw [show fn.results = fn.results.toList.toArray by simp, List.mapM_toArray]
      simp only [Sem.run_bind, Sem.run_map]
      rw [key]
      · by_cases hl : ys.length = 1
        · simp [hl]
        · simp [hl]
      · intro t; rfl
      · intro x t; rfl
    have hκ1 : ∀ b r q, (retE E1 ids).κ b = some (r, q) → ∃ n, r = .res n ∧ n < cntC rs := by
      intro b r q hq
      simp only [retE] at hq
      split at hq
      · rename_i i q' hi
        simp only [Option.map_eq_some_iff, Prod.mk.injEq] at hq
        obtain ⟨k, hk, rfl, rfl⟩ := hq
        exact ⟨k, rfl, Nat.lt_of_lt_of_le (pos_lt hk) hlen⟩
      · simp at hq
    have hκ2 : ∀ b, (retE E1 ids).κ b ≠ none → E1.κ b ≠ none := by
      intro b hb e
      simp only [retE, e] at hb
      exact hb rfl
    refine ⟨_, hrun, _, retE E1 ids, rfl, ?_, ?_, ?_, ?_, hκ1, ?_⟩
    · have hX := hA.ext
      refine ⟨hX.os, hX.tape, hX.output, hX.size, hX.block, fun b hb => .inl (hX.grow b hb), fun b hb => ?_, fun b hb => hX.own b (hκ2 b hb)⟩
      rcases hb with hb | ⟨i, q, hq, _⟩
      · exact hX.from_ b hb
      · exact .inr (hX.own b (by simp [hq]))
    · intro b hb
      rcases hb with hb | ⟨i, q, hq, hp⟩
      · simp only [retE, hA.mr.apart b hb]
      · simp only [retE, hq, hp, Option.map_none]
    · intro b hb
      rcases hb with hb | ⟨i, q, hq, _⟩
      · exact hA.mr.ltS b hb
      · exact hA.mr.ltκ b (by simp [hq])
    · exact fun b hb => hA.mr.ltκ b (hκ2 b hb)
    · unfold RR
      split
      · rename_i c
        have hl : ys.length = 1 := by simpa using h5
        obtain ⟨y, hy⟩ := List.length_eq_one_iff.1 hl
        subst hy
        simpa using h4
      · rename_i hne
        have hl : ys.length ≠ 1 := by
          rw [h5]
          intro e
          match rs, e, hne with
          | [c], _, hne => exact hne c rfl
        exact ⟨ys.toArray, by simp [hl], by simpa using h4⟩
  cases e with
  | normal => exact fin h2
  | ret => exact fin h2
  | exit id => exact h2.elim
  | goto l => exact h2.elim
  | panic c => exact h2.elim
  | outgrown => exact h2.elim
end
end Go.Proofs.Ytgpddckjpokclaa.Vc
