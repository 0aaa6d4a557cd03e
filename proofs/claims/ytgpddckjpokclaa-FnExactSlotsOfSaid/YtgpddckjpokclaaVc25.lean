/- A calculus of values over the model, part 25: calls that write what they are lent. It speaks of any program. -/
import Derived.Test.YtgpddckjpokclaaVc24
namespace Go.Proofs.Ytgpddckjpokclaa.Vc
open Go Go.RowKit
set_option linter.unusedVariables false
set_option linter.unusedSimpArgs false

/-- What a call of f answers to these arguments, which name blocks H0 that it may write; behind it these blocks are H1. -/
def HM (P : Program) (f : FuncId) (H0 : Heap) (ps : List AV) (rs : List RC) (H1 : Heap) : Prop :=
  ∀ (w : World) (E : Env) (μ : Nat → Value) (args : Array Value), MR w E μ H0 0 → Tabs P w E → All2 (AR w E μ H0) ps args.toList →
    Calls P f args w fun e w' => ∃ y E' μ', e = .returned y ∧ Ext w E w' E' ∧ MR w' E' μ' H1 (cntC rs) ∧ (∀ k blk, H1[k]? = some (some blk) → μ' k = μ k) ∧ RR w' E' rs y

structure ConM (P : Program) (f : FuncId) (H0 : Heap) (ps : List AV) (rs : List RC) (H1 : Heap) : Prop where
  enters : ∀ (args : Array Value) (w : World), (callFunc f args).run P w = .ok (.enter f args) w
  calls : HM P f H0 ps rs H1

def ghost (k : Nat) : Option Blk → List (Nat × AV)
  | some (.arr v _ _ _) => [(gb + k, .lf (.hd k v none))]
  | some (.box _ _) => [(gb + k, .lf (.ptr k 0 0 0))]
  | none => []

def ghosts : Nat → Heap → List (Nat × AV)
  | _, [] => []
  | k, b :: l => ghost k b ++ ghosts (k + 1) l

/-- It names no block of ours. -/
def Lf.closed : Lf → Bool
  | .v _ _ => true
  | .nil => true
  | .any => true
  | _ => false

def pinB (sl : List (Nat × AV)) (k : Nat) : Option Blk → Bool
  | some (.arr v _ _ _) => match look sl (gb + k) with
    | some (.lf (.hd i v' none)) => Nat.beq i k && Nat.beq v' v
    | _ => false
  | some (.box l _) => match look sl (gb + k) with
    | some (.lf (.ptr i _ 0 0)) => Nat.beq i k && l.all Lf.closed
    | _ => false
  | none => true

def pinsB (sl : List (Nat × AV)) : Nat → Heap → Bool
  | _, [] => true
  | k, b :: l => pinB sl k b && pinsB sl (k + 1) l

/-- The ids that are handed out (none of them a pinned one), then the pinned ones. -/
def pinId (ids : List (Option Nat)) (n i : Nat) : Option Nat := match ids[i]? with
  | some (some j) => cond (Nat.blt j n) none (some j)
  | _ => none

def pinIds (ids : List (Option Nat)) (m n : Nat) : List (Option Nat) := (List.range m).map (pinId ids n) ++ (List.range n).map some

/-- What must hold where a function ends that writes what it is lent. -/
def retM (T : Tab) (rvs : List ResultVar) (ws : List WC) (rs : List RC) (H1 : Heap) : Exit → St → Prop
  | .normal, s | .ret, s => ∃ ids, retCs T s (pinIds ids (cntC rs) H1.length) 0 ws rvs = some rs ∧ s.H.take H1.length = H1 ∧ pinsB s.sl 0 H1 = true
  | _, _ => False

section
variable {P : Program} {T : Tab} {n : Nat} {w0 : World} {E0 : Env0} {s s' s'' : St} {ops : Array Oper} {Q : Exit → St → Prop} {rest : List Oper}
variable {w w' : World} {E E' : Env} {μ μ' : Nat → Value} {H H' : Heap}

theorem ghosts_look : ∀ (H : Heap) (i k : Nat) (v : AV), look (ghosts i H) k = some v → ∃ j b, k = gb + (i + j) ∧ H[j]? = some (some b) ∧ ((∃ ver t xs m, b = .arr ver t xs m ∧ v = .lf (.hd (i + j) ver none)) ∨ ∃ l t, b = .box l t ∧ v = .lf (.ptr (i + j) 0 0 0))
  | [], _, _, _, h => by simp [ghosts, look] at h
  | b :: l, i, k, v, h => by
    simp only [ghosts] at h
    rcases look_append h with h | h
    · cases b with
      | none => simp [ghost, look] at h
      | some b =>
        cases b with
        | box l' t =>
          simp only [ghost, look_put, look] at h
          split at h
          · rename_i e
            simp only [Option.some.injEq] at h
            exact ⟨0, .box l' t, by omega, rfl, .inr ⟨l', t, rfl, h.symm⟩⟩
          · simp at h
        | arr ver t xs m =>
          simp only [ghost, look_put, look] at h
          split at h
          · rename_i e
            simp only [Option.some.injEq] at h
            exact ⟨0, .arr ver t xs m, by omega, rfl, .inl ⟨ver, t, xs, m, rfl, h.symm⟩⟩
          · simp at h
    · obtain ⟨j, b', h1, h2, h3⟩ := ghosts_look l (i + 1) k v h
      refine ⟨j + 1, b', by omega, by simpa using h2, ?_⟩
      rw [show i + (j + 1) = i + 1 + j by omega]
      exact h3

theorem pinsB_at {sl : List (Nat × AV)} : ∀ {H : Heap} {i : Nat}, pinsB sl i H = true → ∀ (k : Nat) b, H[k]? = some b → pinB sl (i + k) b = true
  | [], _, _, k, b, h => by simp at h
  | c :: l, i, h, k, b, hb => by
    simp only [pinsB, Bool.and_eq_true] at h
    cases k with
    | zero => simp at hb; subst hb; exact h.1
    | succ k =>
      have := pinsB_at h.2 k b (by simpa using hb)
      rw [show i + (k + 1) = i + 1 + k by omega]
      exact this

theorem pos_none (l : List (Option Nat)) (i : Nat) : pos (none :: l) i = (pos l i).map (· + 1) := rfl
theorem pos_some (l : List (Option Nat)) (j i : Nat) : pos (some j :: l) i = cond (Nat.beq j i) (some 0) ((pos l i).map (· + 1)) := rfl

/-- The head is the one, or the one stands behind it. -/
theorem pos_cons (o : Option Nat) (l : List (Option Nat)) (i : Nat) : (o = some i ∧ pos (o :: l) i = some 0) ∨ (o ≠ some i ∧ pos (o :: l) i = (pos l i).map (· + 1)) := by
  cases o with
  | none => exact .inr ⟨by simp, pos_none l i⟩
  | some j =>
    cases hb : Nat.beq j i with
    | true =>
      have := Nat.eq_of_beq_eq_true hb
      subst this
      exact .inl ⟨rfl, by rw [pos_some, hb, cond_true]⟩
    | false => exact .inr ⟨fun e => by simp only [Option.some.injEq] at e; subst e; simp at hb, by rw [pos_some, hb, cond_false]⟩

theorem pos_append {l1 l2 : List (Option Nat)} {i k : Nat} (h : pos (l1 ++ l2) i = some k) : (k < l1.length ∧ pos l1 i = some k) ∨ (l1.length ≤ k ∧ pos l1 i = none ∧ pos l2 i = some (k - l1.length)) := by
  induction l1 generalizing k with
  | nil => exact .inr ⟨Nat.zero_le _, rfl, by simpa using h⟩
  | cons o l ih =>
    rw [List.cons_append] at h
    rcases pos_cons o (l ++ l2) i with ⟨rfl, h1⟩ | ⟨ho, h1⟩
    · rw [h1] at h
      simp only [Option.some.injEq] at h
      subst h
      refine .inl ⟨by simp, ?_⟩
      rcases pos_cons (some i) l i with ⟨_, h2⟩ | ⟨h2, _⟩
      · exact h2
      · exact absurd rfl h2
    · rw [h1, Option.map_eq_some_iff] at h
      obtain ⟨k', h2, rfl⟩ := h
      have h3 : pos (o :: l) i = (pos l i).map (· + 1) := by
        rcases pos_cons o l i with ⟨h4, _⟩ | ⟨_, h4⟩
        · exact absurd h4 ho
        · exact h4
      rcases ih h2 with ⟨a, b⟩ | ⟨a, b, c⟩
      · exact .inl ⟨by simp; omega, by rw [h3, b]; rfl⟩
      · exact .inr ⟨by simp; omega, by rw [h3, b]; rfl, by rw [c]; simp⟩

theorem pos_append_none {l1 l2 : List (Option Nat)} {i : Nat} (h : pos (l1 ++ l2) i = none) : pos l2 i = none := by
  induction l1 with
  | nil => exact h
  | cons o l ih =>
    rw [List.cons_append] at h
    rcases pos_cons o (l ++ l2) i with ⟨_, h1⟩ | ⟨_, h1⟩
    · rw [h1] at h; simp at h
    · rw [h1, Option.map_eq_none_iff] at h; exact ih h

theorem pos_mem : ∀ {l : List (Option Nat)} {i k : Nat}, pos l i = some k → l[k]? = some (some i)
  | [], _, _, h => by simp [pos] at h
  | o :: l, i, k, h => by
    rcases pos_cons o l i with ⟨rfl, h1⟩ | ⟨_, h1⟩
    · rw [h1] at h
      simp only [Option.some.injEq] at h
      subst h
      rfl
    · rw [h1, Option.map_eq_some_iff] at h
      obtain ⟨k', h2, rfl⟩ := h
      simpa using pos_mem h2

theorem LR.closed {a : Lf} {y : Value} (hS : ∀ b, E.S b → E'.S b) (hc : a.closed = true) (h : LR w E μ H a y) : LR w E' μ' H' a y := by
  cases a with
  | v t x => exact Rep.fz (E := E) (E' := E') (fun b hb => ⟨hS b hb, rfl⟩) t x (fun _ _ _ h => h) h
  | nil => exact h
  | any => exact h
  | hd id ver rng => simp [Lf.closed] at hc
  | ptr id ver i j => simp [Lf.closed] at hc
  | fp t x j => simp [Lf.closed] at hc

theorem All2.closed (hS : ∀ b, E.S b → E'.S b) : ∀ {l : List Lf} {ys : List Value}, l.all Lf.closed = true → All2 (LR w E μ H) l ys → All2 (LR w E' μ' H') l ys
  | [], [], _, .nil => .nil
  | a :: l, y :: ys, hc, .cons h1 h2 => by
    simp only [List.all_cons, Bool.and_eq_true] at hc
    exact .cons (LR.closed hS hc.1 h1) (All2.closed hS hc.2 h2)

theorem pos_range {i k : Nat} : ∀ {j n : Nat}, pos ((List.range' j n).map some) i = some k → i = j + k ∧ k < n
  | j, 0, h => by simp [pos] at h
  | j, n + 1, h => by
    simp only [List.range'_succ, List.map_cons, pos] at h
    cases hb : Nat.beq j i with
    | true =>
      rw [hb] at h
      simp only [cond_true, Option.some.injEq] at h
      subst h
      exact ⟨by have := Nat.eq_of_beq_eq_true hb; omega, by omega⟩
    | false =>
      rw [hb] at h
      simp only [cond_false, Option.map_eq_some_iff] at h
      obtain ⟨k', h1, rfl⟩ := h
      obtain ⟨h2, h3⟩ := pos_range h1
      omega

theorem pos_range_none {i : Nat} : ∀ {j n : Nat}, j ≤ i → i < j + n → pos ((List.range' j n).map some) i = some (i - j)
  | j, 0, h1, h2 => by omega
  | j, n + 1, h1, h2 => by
    simp only [List.range'_succ, List.map_cons, pos]
    cases hb : Nat.beq j i with
    | true => have := Nat.eq_of_beq_eq_true hb; simp only [cond_true, Option.some.injEq]; omega
    | false =>
      have hne : j ≠ i := fun e => by subst e; simp at hb
      simp only [cond_false]
      rw [pos_range_none (j := j + 1) (by omega) (by omega)]
      simp only [Option.map_some, Option.some.injEq]
      omega

/-- The environment behind a return, what was lent named as at the start. -/
def retME (E : Env) (ids : List (Option Nat)) (m : Nat) : Env := ⟨(retE E ids).S, fun b => match (retE E ids).κ b with
  | some (.res k, q) => if k < m then some (.res k, q) else some (.id (k - m), q)
  | o => o⟩

theorem RLs.env {E E' : Env} (hS : ∀ b, E.S b → E'.S b) {m : Nat} (hκ : ∀ b k q, k < m → E.κ b = some (.res k, q) → E'.κ b = some (.res k, q)) : ∀ {k : Nat} {ls : List RL} {ys : List Value}, k + cnt ls ≤ m → RLs w E k ls ys → RLs w E' k ls ys
  | _, [], [], _, _ => trivial
  | k, .v t x :: l, y :: ys, hk, h => ⟨Rep.fz (fun b hb => ⟨hS b hb, rfl⟩) t x (fun _ _ _ h => h) h.1, RLs.env hS hκ (by simpa [cnt] using hk) h.2⟩
  | k, .own e xs md :: l, y :: ys, hk, h => by
    simp only [cnt] at hk
    refine ⟨⟨h.1.1, ?_⟩, RLs.env hS hκ (by omega) h.2⟩
    exact Rep.move (fun _ => True) (fun q => q) (fun b hb => ⟨hS b hb, rfl⟩) (fun b q _ hq => ⟨hκ b k q (by omega) hq, rfl, fun _ => ⟨trivial, rfl⟩⟩) (.sl e) xs md _ _ _ _ (fun _ => ⟨fun _ => trivial, fun _ => rfl⟩) (fun _ _ _ h => h) h.1.2
  | _, [], _ :: _, _, h => h.elim
  | _, .v _ _ :: _, [], _, h => h.elim
  | _, .own _ _ _ :: _, [], _, h => h.elim

theorem RCs.env {E E' : Env} (hS : ∀ b, E.S b → E'.S b) {m : Nat} (hκ : ∀ b k q, k < m → E.κ b = some (.res k, q) → E'.κ b = some (.res k, q)) : ∀ {k : Nat} {rs : List RC} {ys : List Value}, k + cntC rs ≤ m → RCs w E k rs ys → RCs w E' k rs ys
  | _, [], [], _, _ => trivial
  | k, .lf a :: l, y :: ys, hk, h => by
    simp only [cntC, RC.ls] at hk
    exact ⟨RLs.env hS hκ (by omega) h.1, RCs.env hS hκ (by omega) h.2⟩
  | k, .agg c :: l, y :: ys, hk, h => by
    simp only [cntC, RC.ls] at hk
    obtain ⟨⟨arr, h1, h2⟩, h3⟩ := h
    exact ⟨⟨arr, h1, RLs.env hS hκ (by omega) h2⟩, RCs.env hS hκ (by omega) h3⟩
  | _, [], _ :: _, _, h => h.elim
  | _, .lf _ :: _, [], _, h => h.elim
  | _, .agg _ :: _, [], _, h => h.elim

theorem HM.intro {f : FuncId} {fn : Func} {c : Code} {H0 H1 : Heap} {ps : List AV} {rs : List RC} (ws : List WC) (hT : TabOk P T) (hf : P.funcs[f]? = some fn) (hb : fn.body = some c) (hn : ps.length ≤ fn.ntmps) (hg : fn.ntmps ≤ gb)
    (h : ∀ w0 E0, Tabs P w0 E0.toEnv → VW P fn.ntmps w0 E0 c (retM T fn.results.toList ws rs H1) ⟨argSl 0 ps ++ ghosts 0 H0, H0⟩) : HM P f H0 ps rs H1 := by
  intro w E μ args hM ht hargs
  refine calls_of_wp hf hb ?_
  have hal := hargs.length
  simp only [Array.length_toList] at hal
  have hs : SRel fn.ntmps w ⟨E, fun k => μ (k - gb)⟩ ⟨argSl 0 ps ++ ghosts 0 H0, H0⟩ { tmps := args ++ Array.replicate (fn.ntmps - args.size) undef, defers := [] } w := by
    refine ⟨⟨by simp; omega, hg⟩, rfl, hM.apart, E, μ, hM, Ext.refl w E, fun k v hv => ?_⟩
    rcases look_append hv with hv | hv
    · obtain ⟨_, h2⟩ := argSl_look ps 0 k v hv
      simp only [Nat.sub_zero] at h2
      obtain ⟨y, h3, h4⟩ := hargs.get k v h2
      refine ⟨y, ?_, h4⟩
      have hk := (List.getElem?_eq_some_iff.1 h3).1
      simp only [Array.length_toList] at hk
      rw [getS_lt (by omega), Array.getElem?_append_left hk, ← Array.getElem?_toList]
      exact h3
    · obtain ⟨j, b, rfl, hj, hb⟩ := ghosts_look H0 0 k v hv
      refine ⟨μ j, by unfold getS; rw [if_neg (by omega)]; simp, ?_⟩
      have hN := hM.blks j b hj
      rcases hb with ⟨ver, t, xs, m, rfl, rfl⟩ | ⟨l, t, rfl, rfl⟩
      · simp only [Nat.zero_add, AR, LR, hj]
        exact ⟨rep_sl_one hN.2 (by simp [at0]), Nat.le_refl _, fun _ => rfl⟩
      · obtain ⟨g, arr, h1, _⟩ := hN
        simp only [Nat.zero_add, AR, LR, hj]
        exact ⟨by rw [h1]; rfl, g, h1, h1⟩
  refine wp_mono (h w _ ht _ _ hs) ?_
  rintro e a' w' ⟨s', h1, h2⟩
  have fin : (∃ ids, retCs T s' (pinIds ids (cntC rs) H1.length) 0 ws fn.results.toList = some rs ∧ s'.H.take H1.length = H1 ∧ pinsB s'.sl 0 H1 = true) → a'.defers = [] ∧ ∃ v, (results fn a'.tmps).run P w' = .ok v w' ∧ ∃ y E' μ', Ending.returned v = .returned y ∧ Ext w E w' E' ∧ MR w' E' μ' H1 (cntC rs) ∧ (∀ k blk, H1[k]? = some (some blk) → μ' k = μ k) ∧ RR w' E' rs y := by
    rintro ⟨ids0, hr, htake, hpins⟩
    obtain ⟨E1, μ1, hA⟩ := h1.at
    refine ⟨hA.defers, ?_⟩
    generalize hids : pinIds ids0 (cntC rs) H1.length = ids at hr
    obtain ⟨ys, h3, h4, h5⟩ := retCs_run (ids := ids) (k := 0) hT hA (fun
      | .tmp t => pure (a'.tmps.getD t undef)
      | .cell a t => do loadVar t (← asAddr (a'.tmps.getD a undef))) (fun _ => rfl) (fun _ _ => rfl) hr
    have key : ∀ F : ResultVar → Sem Value, (∀ t, F (.tmp t) = pure (a'.tmps.getD t undef)) → (∀ x t, F (.cell x t) = (do loadVar t (← asAddr (a'.tmps.getD x undef)))) → (fn.results.toList.mapM F).run P w' = .ok ys w' := by
      intro F g1 g2
      have e : F = (fun
          | .tmp t => pure (a'.tmps.getD t undef)
          | .cell a t => do loadVar t (← asAddr (a'.tmps.getD a undef))) := by
        funext r
        cases r with
        | tmp t => exact g1 t
        | cell x t => exact g2 x t
      rw [e]
      exact h3
    have hrun : (results fn a'.tmps).run P w' = .ok (if h : ys.length = 1 then ys[0] else .tuple ys.toArray) w' := by
      unfold results
      rw [show fn.results = fn.results.toList.toArray by simp, List.mapM_toArray]
      simp only [Sem.run_bind, Sem.run_map]
      rw [key]
      · by_cases hl : ys.length = 1
        · simp [hl]
        · simp [hl]
      · intro t; rfl
      · intro x t; rfl
    have hlen : ((List.range (cntC rs)).map (pinId ids0 H1.length)).length = cntC rs := by simp
    have hHlen : H1.length ≤ s'.H.length := by rw [← htake]; simp; omega
    have hH1 : ∀ (k : Nat) b, H1[k]? = some b → s'.H[k]? = some b := by
      intro k b hk
      rw [← htake, List.getElem?_take] at hk
      split at hk
      · exact hk
      · simp at hk
    -- which blocks are whose
    have hκ1 : ∀ b r q, (retME E1 ids (cntC rs)).κ b = some (r, q) → ∃ i, E1.κ b = some (.id i, q) ∧ ((∃ k, r = .res k ∧ k < cntC rs ∧ pos ids i = some k) ∨ (r = .id i ∧ i < H1.length ∧ pos ids i = some (cntC rs + i))) := by
      intro b r q hq
      simp only [retME, retE] at hq
      cases hE : E1.κ b with
      | none => rw [hE] at hq; simp at hq
      | some x =>
        obtain ⟨r0, q0⟩ := x
        rw [hE] at hq
        cases r0 with
        | res m => simp at hq
        | id i =>
          simp only at hq
          cases hp : pos ids i with
          | none => rw [hp] at hq; simp at hq
          | some k =>
            rw [hp] at hq
            simp only [Option.map_some] at hq
            by_cases hk : k < cntC rs
            · rw [if_pos hk] at hq
              simp only [Option.some.injEq, Prod.mk.injEq] at hq
              obtain ⟨rfl, rfl⟩ := hq
              exact ⟨i, rfl, .inl ⟨k, rfl, hk, hp⟩⟩
            · rw [if_neg hk] at hq
              simp only [Option.some.injEq, Prod.mk.injEq] at hq
              obtain ⟨rfl, rfl⟩ := hq
              rw [← hids] at hp
              rcases pos_append hp with ⟨h6, _⟩ | ⟨h6, _, h7⟩
              · rw [hlen] at h6; exact absurd h6 hk
              · rw [hlen] at h7
                rw [List.range_eq_range'] at h7
                obtain ⟨h8, h9⟩ := pos_range h7
                have hi : i = k - cntC rs := by omega
                refine ⟨i, rfl, .inr ⟨by rw [hi], by omega, ?_⟩⟩
                rw [← hids] at *
                rw [show cntC rs + i = k by omega]
                exact hp
    have hκ2 : ∀ b i q, E1.κ b = some (.id i, q) → pos ids i = none → (retME E1 ids (cntC rs)).κ b = none := by
      intro b i q h6 h7
      simp only [retME, retE, h6, h7, Option.map_none]
    have hκ3 : ∀ b i q, E1.κ b = some (.id i, q) → (i < H1.length ∧ ∀ k, k < cntC rs → pos ids i ≠ some k) → (retME E1 ids (cntC rs)).κ b = some (.id i, q) := by
      intro b i q h6 ⟨h7, h8⟩
      have hp : pos ids i = some (cntC rs + i) := by
        cases hp : pos ids i with
        | none =>
          exfalso
          rw [← hids] at hp
          have h9 := pos_append_none hp
          rw [List.range_eq_range', pos_range_none (by omega) (by omega)] at h9
          simp at h9
        | some k =>
          rw [← hids] at hp
          rcases pos_append hp with ⟨h9, _⟩ | ⟨h9, _, h10⟩
          · rw [hlen] at h9
            rw [hids] at hp
            exact absurd hp (h8 k h9)
          · rw [hlen] at h9 h10
            rw [List.range_eq_range'] at h10
            obtain ⟨h11, _⟩ := pos_range h10
            rw [show cntC rs + i = k by omega]
      simp only [retME, retE, h6, hp, Option.map_some]
      rw [if_neg (by omega)]
      simp
    have hSS : ∀ b, E1.S b → (retME E1 ids (cntC rs)).S b := fun b hb => .inl hb
    -- a pinned name is not handed out
    have hpin : ∀ (k : Nat) blk, H1[k]? = some (some blk) → μ1 k = μ k := by
      intro k blk hk
      have hp := pinsB_at hpins k _ hk
      rw [Nat.zero_add] at hp
      cases blk with
      | arr v t xs m =>
        simp only [pinB] at hp
        split at hp
        · rename_i i v' hl
          simp only [Bool.and_eq_true] at hp
          have e1 := Nat.eq_of_beq_eq_true hp.1
          have e2 := Nat.eq_of_beq_eq_true hp.2
          subst e1 e2
          obtain ⟨y, h6, h7⟩ := hA.slots _ _ hl
          simp only [AR, LR, hH1 _ _ hk] at h7
          have h8 := h7.2.2 trivial
          unfold getS at h6
          rw [if_neg (by omega)] at h6
          simp only [Option.some.injEq] at h6
          simp only [HdR] at h8
          have h6' : μ (gb + i - gb) = y := h6
          rw [Nat.add_sub_cancel_left] at h6'
          rw [← h8, ← h6']
        · simp at hp
      | box l t =>
        simp only [pinB] at hp
        split at hp
        · rename_i i v' hl
          simp only [Bool.and_eq_true] at hp
          have e1 := Nat.eq_of_beq_eq_true hp.1
          subst e1
          obtain ⟨y, h6, h7⟩ := hA.slots _ _ hl
          simp only [AR, LR, hH1 _ _ hk] at h7
          obtain ⟨_, g, h8, h9⟩ := h7
          unfold getS at h6
          rw [if_neg (by omega)] at h6
          simp only [Option.some.injEq] at h6
          have h6' : μ (gb + i - gb) = y := h6
          rw [Nat.add_sub_cancel_left] at h6'
          rw [h8, ← h9, ← h6']
        · simp at hp
    -- the pinned ids stand in no result
    have hno : ∀ i, i < H1.length → ∀ k, k < cntC rs → pos ids i ≠ some k := by
      intro i hi k hk hp
      rw [← hids] at hp
      rcases pos_append hp with ⟨_, h6⟩ | ⟨h6, _⟩
      · have h7 := pos_mem h6
        rw [List.getElem?_map, Option.map_eq_some_iff] at h7
        obtain ⟨j, _, h8⟩ := h7
        unfold pinId at h8
        split at h8
        · rename_i j' _
          cases hb : Nat.blt j' H1.length with
          | true => rw [hb] at h8; simp at h8
          | false =>
            rw [hb] at h8
            simp only [cond_false, Option.some.injEq] at h8
            subst h8
            have : Nat.blt j' H1.length = true := Nat.ble_eq_true_of_le hi
            rw [hb] at this
            simp at this
        · simp at h8
      · rw [hlen] at h6; omega
    have hκ4 : ∀ b, (retME E1 ids (cntC rs)).κ b ≠ none → E1.κ b ≠ none := by
      intro b hb e
      cases hk : (retME E1 ids (cntC rs)).κ b with
      | none => exact hb hk
      | some x =>
        obtain ⟨i, h6, _⟩ := hκ1 b x.1 x.2 hk
        rw [h6] at e
        simp at e
    refine ⟨_, hrun, _, retME E1 ids (cntC rs), μ1, rfl, ?_, ⟨?_, ?_, ?_, ?_, ?_⟩, hpin, ?_⟩
    · have hX := hA.ext
      refine ⟨hX.os, hX.tape, hX.output, hX.size, hX.block, fun b hb => hSS b (hX.grow b hb), fun b hb => ?_, fun b hb => hX.own b (hκ4 b hb)⟩
      rcases hb with hb | ⟨i, q, hq, _⟩
      · exact hX.from_ b hb
      · exact .inr (hX.own b (by simp [hq]))
    · intro b hb
      rcases hb with hb | ⟨i, q, hq, hp⟩
      · simp only [retME, retE, hA.mr.apart b hb]
      · exact hκ2 b i q hq hp
    · intro b hb
      rcases hb with hb | ⟨i, q, hq, _⟩
      · exact hA.mr.ltS b hb
      · exact hA.mr.ltκ b (by simp [hq])
    · exact fun b hb => hA.mr.ltκ b (hκ4 b hb)
    · intro b r q hq
      obtain ⟨i, _, ⟨k, h6, h7, _⟩ | ⟨h6, h7, _⟩⟩ := hκ1 b r q hq
      · exact .inr ⟨k, h6, h7⟩
      · exact .inl ⟨i, h6, h7⟩
    · intro k blk hk
      have hN := hA.mr.blks k blk (hH1 _ _ hk)
      have hkl := (List.getElem?_eq_some_iff.1 hk).1
      cases blk with
      | arr v t xs m =>
        refine ⟨hN.1, ?_⟩
        exact Rep.move (fun _ => True) (fun q => q) (fun b hb => ⟨hSS b hb, rfl⟩) (fun b q _ hq => ⟨hκ3 b k q hq ⟨hkl, hno k hkl⟩, rfl, fun _ => ⟨trivial, rfl⟩⟩) (.sl t) xs m _ _ _ _ (fun _ => ⟨fun _ => trivial, fun _ => rfl⟩) (fun _ _ _ h => h) hN.2
      | box l t =>
        obtain ⟨g, arr, a1, a2, a3, a4⟩ := hN
        have hp := pinsB_at hpins k _ hk
        rw [Nat.zero_add] at hp
        have hcl : l.all Lf.closed = true := by
          simp only [pinB] at hp
          split at hp
          · simp only [Bool.and_eq_true] at hp; exact hp.2
          · simp at hp
        exact ⟨g, arr, a1, hκ3 g k _ a2 ⟨hkl, hno k hkl⟩, a3, All2.closed hSS hcl a4⟩
    · have hR := RCs.env (E := retE E1 ids) (E' := retME E1 ids (cntC rs)) (fun b hb => hb) (m := cntC rs) (fun b k q hk hq => by simp only [retME, hq, if_pos hk]) (by omega) h4
      unfold RR
      split
      · rename_i c
        have hl : ys.length = 1 := by simpa using h5
        obtain ⟨y, hy⟩ := List.length_eq_one_iff.1 hl
        subst hy
        simpa using hR
      · rename_i hne
        have hl : ys.length ≠ 1 := by
          rw [h5]
          intro e
          match rs, e, hne with
          | [c], _, hne => exact hne c rfl
        exact ⟨ys.toArray, by simp [hl], by simpa using hR⟩
  cases e with
  | normal => exact fin h2
  | ret => exact fin h2
  | exit id => exact h2.elim
  | goto l => exact h2.elim
  | panic c => exact h2.elim
  | outgrown => exact h2.elim
end
end Go.Proofs.Ytgpddckjpokclaa.Vc
