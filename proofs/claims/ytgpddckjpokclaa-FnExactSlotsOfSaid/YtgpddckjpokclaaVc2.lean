/- A calculus of values over the model, second part: the state that a walk keeps (what each slot and each block of ours holds, as plain values), how it stands to the machine's own, and the rules for the forms of code. It speaks of any program. -/
import Derived.Test.YtgpddckjpokclaaVc1
import Derived.Deep.LoopGhost
import Derived.Laws.Sem
namespace Go.Proofs.Ytgpddckjpokclaa.Vc
open Go Go.RowKit
set_option linter.unusedVariables false

inductive All2 {α β : Type} (R : α → β → Prop) : List α → List β → Prop
  | nil : All2 R [] []
  | cons {x : α} {y : β} {xs : List α} {ys : List β} : R x y → All2 R xs ys → All2 R (x :: xs) (y :: ys)

theorem All2.imp {α β : Type} {R R' : α → β → Prop} (h : ∀ x y, R x y → R' x y) : ∀ {xs : List α} {ys : List β}, All2 R xs ys → All2 R' xs ys
  | _, _, .nil => .nil
  | _, _, .cons h1 h2 => .cons (h _ _ h1) (All2.imp h h2)

theorem All2.length {α β : Type} {R : α → β → Prop} : ∀ {xs : List α} {ys : List β}, All2 R xs ys → xs.length = ys.length
  | _, _, .nil => rfl
  | _, _, .cons _ h => by simp [All2.length h]

theorem All2.get {α β : Type} {R : α → β → Prop} : ∀ {xs : List α} {ys : List β}, All2 R xs ys → ∀ (i : Nat) (x : α), xs[i]? = some x → ∃ y, ys[i]? = some y ∧ R x y
  | _, _, .nil, i, x, h => by simp at h
  | _, _, .cons (y := y) h1 h2, 0, x, h => by
    simp at h
    subst h
    exact ⟨y, by simp, h1⟩
  | _, _, .cons h1 h2, i + 1, x, h => by
    obtain ⟨y, h3, h4⟩ := All2.get h2 i x (by simpa using h)
    exact ⟨y, by simpa using h3, h4⟩

theorem All2.of_get {α β : Type} {R : α → β → Prop} : ∀ {xs : List α} {ys : List β}, xs.length = ys.length → (∀ (i : Nat) x y, xs[i]? = some x → ys[i]? = some y → R x y) → All2 R xs ys
  | [], [], _, _ => .nil
  | x :: xs, y :: ys, hl, h => .cons (h 0 x y rfl rfl) (All2.of_get (by simpa using hl) (fun i x y h1 h2 => h (i + 1) x y (by simpa using h1) (by simpa using h2)))

theorem All2.append {α β : Type} {R : α → β → Prop} : ∀ {xs xs' : List α} {ys ys' : List β}, All2 R xs ys → All2 R xs' ys' → All2 R (xs ++ xs') (ys ++ ys')
  | _, _, _, _, .nil, h => h
  | _, _, _, _, .cons h1 h2, h => .cons h1 (All2.append h2 h)

/-- What one cell, or a slot of one cell, holds: a value (scalar, or a slice whose rows nobody writes); a nil slice; a slice of ours (id, its version, which part); the address of a cell of a block of ours; the address of a cell of what nobody writes; whatever. -/
inductive Lf where
  | v (t : Ty) (x : t.den)
  | nil
  | hd (id ver : Nat) (rng : Option (Nat × Nat))
  | ptr (id ver i j : Nat)
  | fp (t : Ty) (x : t.den) (j : Nat)
  | any

/-- A block of ours: a variable, cell by cell; a slice's rows. -/
inductive Blk where
  | box (l : List Lf) (tid : TypeId)
  | arr (ver : Nat) (t : Ty) (xs : List t.den) (m : Md)

abbrev Heap := List (Option Blk)

inductive SV where
  | lf (a : Lf)
  | agg (l : List Lf)

inductive AV where
  | lf (a : Lf)
  | agg (l : List Lf)
  | tup (l : List SV)
  | clo (f : FuncId) (caps : List SV)
  | unk

def at0 (y : Value) : Nat → Option Value := fun j => if j = 0 then some y else none

def HdR (lv n : Nat) (V : Value) : Option (Nat × Nat) → Value → Prop
  | none, y => y = V
  | some (o, l), y => ∃ a c, V = .slice a n c ∧ n ≤ c ∧ o + l ≤ n ∧ (n = 0 ∨ ∃ b, a = some ⟨b, 0, none⟩) ∧ ∃ a', y = .slice a' l (c - o) ∧ (c ≠ o → a' = a.map (·.add (o * lv))) ∧ (o = 0 → a' = a)

theorem HdR.old {lv n o l : Nat} {V y : Value} (h : HdR lv n V (some (o, l)) y) : (l = 0 ∧ ∃ a c, y = .slice a 0 c) ∨ ∃ b c c', V = .slice (some ⟨b, 0, none⟩) n c ∧ y = .slice (some ⟨b, o * lv, none⟩) l c' ∧ o + l ≤ n ∧ l ≤ c' := by
  obtain ⟨a, c, h1, h2, h3, h4, a', h5, h6, _⟩ := h
  by_cases hl : l = 0
  · subst hl
    exact .inl ⟨rfl, _, _, h5⟩
  · obtain ⟨b, rfl⟩ := h4.resolve_left (by omega)
    refine .inr ⟨b, c, c - o, h1, ?_, h3, by omega⟩
    rw [h5, h6 (by omega), Option.map_some]
    unfold Addr.add
    split
    · rename_i h0; rw [h0]
    · simp

def LR (w : World) (E : Env) (μ : Nat → Value) (H : Heap) : Lf → Value → Prop
  | .v t x, y => Rep w E (.res 0) t x .fz (fun _ => .top) (at0 y)
  | .nil, y => ∃ a, y = .slice a 0 0
  | .hd id ver rng, y => y.oneCell' = true ∧ match H[id]? with
    | none => False
    | some none => True
    | some (some (.box _ _)) => False
    | some (some (.arr cur t xs _)) => ver ≤ cur ∧ (ver = cur → HdR t.lv xs.length (μ id) rng y)
  | .ptr id ver i j, y => y.oneCell' = true ∧ match H[id]? with
    | none => False
    | some none => True
    | some (some (.box _ _)) => ∃ b, μ id = .pointer (some ⟨b, 0, none⟩) ∧ y = .pointer (some ⟨b, j, none⟩)
    | some (some (.arr cur t xs _)) => ver ≤ cur ∧ (ver = cur → ∃ b n c, μ id = .slice (some ⟨b, 0, none⟩) n c ∧ y = .pointer (some ⟨b, i * t.lv + j, none⟩))
  | .fp t x j, y => ∃ b o, y = .pointer (some ⟨b, o + j, none⟩) ∧ E.S b ∧ Rep w E (.res 0) t x .fz (fun _ => .top) (fun k => cellAt w b (o + k))
  | .any, y => y.oneCell' = true

def SR (w : World) (E : Env) (μ : Nat → Value) (H : Heap) : SV → Value → Prop
  | .lf a, y => LR w E μ H a y
  | .agg l, y => ∃ arr : Array Value, y = .agg arr ∧ All2 (LR w E μ H) l arr.toList

def AR (w : World) (E : Env) (μ : Nat → Value) (H : Heap) : AV → Value → Prop
  | .lf a, y => LR w E μ H a y
  | .agg l, y => ∃ arr : Array Value, y = .agg arr ∧ All2 (LR w E μ H) l arr.toList
  | .tup l, y => ∃ arr : Array Value, y = .tuple arr ∧ All2 (SR w E μ H) l arr.toList
  | .clo f caps, y => ∃ arr : Array Value, y = .func (.func f) #[] arr ∧ All2 (SR w E μ H) caps arr.toList
  | .unk, y => y = undef

/-- A block of ours in memory. -/
def NB (w : World) (E : Env) (μ : Nat → Value) (H : Heap) (id : Nat) : Blk → Prop
  | .box l tid => ∃ b arr, μ id = .pointer (some ⟨b, 0, none⟩) ∧ E.κ b = some (.id id, .top) ∧ w.heap[b]? = some (.cells arr tid (0, 0)) ∧ All2 (LR w E μ H) l arr.toList
  | .arr _ t xs m => m ≠ .fz ∧ Rep w E (.id id) (.sl t) xs m (fun _ => .top) (at0 (μ id))

structure MR (w : World) (E : Env) (μ : Nat → Value) (H : Heap) (k : Nat) : Prop where
  apart : ∀ b, E.S b → E.κ b = none
  ltS : ∀ b, E.S b → b < w.heap.size
  ltκ : ∀ b, E.κ b ≠ none → b < w.heap.size
  roots : ∀ b r q, E.κ b = some (r, q) → (∃ n, r = .id n ∧ n < H.length) ∨ ∃ n, r = .res n ∧ n < k
  blks : ∀ (id : Nat) blk, H[id]? = some (some blk) → NB w E μ H id blk

/-- What has become of the world since (w0, E0). -/
structure Ext (w0 : World) (E0 : Env) (w : World) (E : Env) : Prop where
  os : w.os = w0.os
  tape : w.tape = w0.tape
  output : w.output = w0.output
  size : w0.heap.size ≤ w.heap.size
  block : ∀ b, b < w0.heap.size → E0.κ b = none → w.heap[b]? = w0.heap[b]?
  grow : ∀ b, E0.S b → E.S b
  from_ : ∀ b, E.S b → E0.S b ∨ E0.κ b ≠ none ∨ w0.heap.size ≤ b
  own : ∀ b, E.κ b ≠ none → E0.κ b ≠ none ∨ w0.heap.size ≤ b

theorem Ext.refl (w : World) (E : Env) : Ext w E w E := ⟨rfl, rfl, rfl, Nat.le_refl _, fun _ _ _ => rfl, fun _ h => h, fun _ h => .inl h, fun _ h => .inl h⟩

theorem Ext.trans {w0 w1 w2 : World} {E0 E1 E2 : Env} (h : Ext w0 E0 w1 E1) (h0 : ∀ b, E0.S b → E0.κ b = none) (k : Ext w1 E1 w2 E2) : Ext w0 E0 w2 E2 where
  os := k.os.trans h.os
  tape := k.tape.trans h.tape
  output := k.output.trans h.output
  size := Nat.le_trans h.size k.size
  block := fun b hb hn => by
    have h1 := h.block b hb hn
    have : E1.κ b = none := by
      cases hk : E1.κ b with
      | none => rfl
      | some x => rcases h.own b (by simp [hk]) with h2 | h2
                  · exact absurd hn h2
                  · omega
    exact (k.block b (Nat.lt_of_lt_of_le hb h.size) this).trans h1
  grow := fun b hb => k.grow b (h.grow b hb)
  from_ := fun b hb => by
    rcases k.from_ b hb with h1 | h1 | h1
    · exact h.from_ b h1
    · exact .inr (h.own b h1)
    · exact .inr (.inr (Nat.le_trans h.size h1))
  own := fun b hb => by
    rcases k.own b hb with h1 | h1
    · exact h.own b h1
    · exact .inr (Nat.le_trans h.size h1)

/-- How a block of ours may turn, and the names of its slices and cells still be right. -/
def Kp (y y' : Value) : Option Blk → Option Blk → Prop
  | _, none => True
  | some (.box _ _), some (.box _ _) => y' = y
  | some (.arr v t xs _), some (.arr v' t' xs' _) => v < v' ∨ (v' = v ∧ t'.lv = t.lv ∧ xs'.length = xs.length ∧ y' = y)
  | _, _ => False

def KpH (μ μ' : Nat → Value) (H H' : Heap) : Prop := ∀ (id : Nat) b, H[id]? = some b → ∃ b', H'[id]? = some b' ∧ Kp (μ id) (μ' id) b b'

theorem Kp.refl (y : Value) (b : Option Blk) : Kp y y b b := by
  cases b with
  | none => trivial
  | some b => cases b <;> simp [Kp]

theorem KpH.refl (μ : Nat → Value) (H : Heap) : KpH μ μ H H := fun _ b h => ⟨b, h, Kp.refl _ b⟩

theorem LR.keep {w w' : World} {E E' : Env} {μ μ' : Nat → Value} {H H' : Heap} (hS : ∀ b, E.S b → E'.S b ∧ w'.heap[b]? = w.heap[b]?) (hH : KpH μ μ' H H') :
    ∀ (a : Lf) (y : Value), LR w E μ H a y → LR w' E' μ' H' a y
  | .v t x, y, h => Rep.fz hS t x (fun _ _ _ h => h) h
  | .nil, _, h => h
  | .hd id ver rng, y, h => by
    refine ⟨h.1, ?_⟩
    replace h := h.2
    cases hb : H[id]? with
    | none => rw [hb] at h; exact h.elim
    | some b =>
      rw [hb] at h
      obtain ⟨b', hb', hk⟩ := hH id b hb
      rw [hb']
      cases b' with
      | none => trivial
      | some b' =>
        cases b with
        | none => simp [Kp] at hk
        | some b =>
          cases b with
          | box l t => exact h.elim
          | arr v t xs m =>
            cases b' with
            | box l t => simp [Kp] at hk
            | arr v' t' xs' m' =>
              simp only [Kp] at hk
              rcases hk with hk | ⟨rfl, h2, h3, h4⟩
              · exact ⟨by have := h.1; omega, fun e => by have := h.1; omega⟩
              · exact ⟨h.1, fun e => by rw [h4, h2, h3]; exact h.2 e⟩
  | .ptr id ver i j, y, h => by
    refine ⟨h.1, ?_⟩
    replace h := h.2
    cases hb : H[id]? with
    | none => rw [hb] at h; exact h.elim
    | some b =>
      rw [hb] at h
      obtain ⟨b', hb', hk⟩ := hH id b hb
      rw [hb']
      cases b' with
      | none => trivial
      | some b' =>
        cases b with
        | none => simp [Kp] at hk
        | some b =>
          cases b with
          | box l t =>
            cases b' with
            | box l' t' => simp only [Kp] at hk; rw [hk]; exact h
            | arr v' t' xs' m' => simp [Kp] at hk
          | arr v t xs m =>
            cases b' with
            | box l t => simp [Kp] at hk
            | arr v' t' xs' m' =>
              simp only [Kp] at hk
              rcases hk with hk | ⟨rfl, h2, h3, h4⟩
              · exact ⟨by have := h.1; omega, fun e => by have := h.1; omega⟩
              · exact ⟨h.1, fun e => by rw [h4, h2]; exact h.2 e⟩
  | .fp t x j, y, h => by
    obtain ⟨b, o, h1, h2, h3⟩ := h
    obtain ⟨h4, h5⟩ := hS b h2
    exact ⟨b, o, h1, h4, Rep.fz hS t x (fun k v _ hv => by rw [cellAt_eq h5]; exact hv) h3⟩
  | .any, _, h => h

theorem SR.keep {w w' : World} {E E' : Env} {μ μ' : Nat → Value} {H H' : Heap} (hS : ∀ b, E.S b → E'.S b ∧ w'.heap[b]? = w.heap[b]?) (hH : KpH μ μ' H H') :
    ∀ (a : SV) (y : Value), SR w E μ H a y → SR w' E' μ' H' a y
  | .lf a, y, h => LR.keep hS hH a y h
  | .agg l, y, h => let ⟨arr, h1, h2⟩ := h; ⟨arr, h1, h2.imp (LR.keep hS hH)⟩

theorem AR.keep {w w' : World} {E E' : Env} {μ μ' : Nat → Value} {H H' : Heap} (hS : ∀ b, E.S b → E'.S b ∧ w'.heap[b]? = w.heap[b]?) (hH : KpH μ μ' H H') :
    ∀ (a : AV) (y : Value), AR w E μ H a y → AR w' E' μ' H' a y
  | .lf a, y, h => LR.keep hS hH a y h
  | .agg l, y, h => let ⟨arr, h1, h2⟩ := h; ⟨arr, h1, h2.imp (LR.keep hS hH)⟩
  | .tup l, y, h => let ⟨arr, h1, h2⟩ := h; ⟨arr, h1, h2.imp (SR.keep hS hH)⟩
  | .clo f l, y, h => let ⟨arr, h1, h2⟩ := h; ⟨arr, h1, h2.imp (SR.keep hS hH)⟩
  | .unk, _, h => h

/-! ### the state of a walk -/
structure St where
  sl : List (Nat × AV)
  H : Heap

def look : List (Nat × AV) → Nat → Option AV
  | [], _ => none
  | (j, v) :: l, k => cond (Nat.beq j k) (some v) (look l k)

/-- How a call began; and values that are remembered, under numbers that no slot has. -/
structure Env0 extends Env where
  gv : Nat → Value

instance : Coe Env0 Env := ⟨Env0.toEnv⟩

def gb : Nat := 65536

/-- What a slot holds, or what is remembered. -/
def getS (E0 : Env0) (a : Act) (k : Nat) : Option Value := if k < gb then a.tmps[k]? else some (E0.gv k)

theorem getS_lt {E0 : Env0} {a : Act} {k : Nat} (h : k < gb) : getS E0 a k = a.tmps[k]? := if_pos h

/-- The machine at a place of a call's walk that stands as s says; n: how many slots; (w0, E0): how the call began. -/
structure SRel (n : Nat) (w0 : World) (E0 : Env0) (s : St) (a : Act) (w : World) : Prop where
  size : a.tmps.size = n ∧ n ≤ gb
  defers : a.defers = []
  apart : ∀ b, E0.S b → E0.κ b = none
  mem : ∃ E μ, MR w E μ s.H 0 ∧ Ext w0 E0 w E ∧ ∀ k v, look s.sl k = some v → ∃ y, getS E0 a k = some y ∧ AR w E μ s.H v y

/-- The walk of a piece of code: wherever the machine stands as s says, it comes to an exit at which Q holds. -/
def VW (P : Program) (n : Nat) (w0 : World) (E0 : Env0) (c : Code) (Q : Exit → St → Prop) (s : St) : Prop :=
  ∀ a w, SRel n w0 E0 s a w → c.wp P (fun e a' w' => ∃ s', SRel n w0 E0 s' a' w' ∧ Q e s') a w

abbrev thenQ (R : St → Prop) (Q : Exit → St → Prop) : Exit → St → Prop
  | .normal, s => R s
  | e, s => Q e s

abbrev blockQ (id : Nat) (Q : Exit → St → Prop) : Exit → St → Prop
  | .exit i, s => cond (Nat.beq i id) (Q .normal s) (Q (.exit i) s)
  | e, s => Q e s

section
variable {P : Program} {n : Nat} {w0 : World} {E0 : Env0} {Q : Exit → St → Prop} {s : St}

theorem VW.mono {c : Code} {Q' : Exit → St → Prop} (h : VW P n w0 E0 c Q s) (hq : ∀ e s, Q e s → Q' e s) : VW P n w0 E0 c Q' s :=
  fun a w hs => wp_mono (h a w hs) fun e _ _ ⟨s', h1, h2⟩ => ⟨s', h1, hq e s' h2⟩

theorem VW.skip (h : Q .normal s) : VW P n w0 E0 .skip Q s := fun _ _ hs => wp_skip ⟨s, hs, h⟩
theorem VW.ret (h : Q .ret s) : VW P n w0 E0 .ret Q s := fun _ _ hs => wp_ret ⟨s, hs, h⟩
theorem VW.exit {id : Nat} (h : Q (.exit id) s) : VW P n w0 E0 (.exit id) Q s := fun _ _ hs => wp_exit ⟨s, hs, h⟩

theorem VW.seq {x y : Code} (h : VW P n w0 E0 x (thenQ (VW P n w0 E0 y Q) Q) s) : VW P n w0 E0 (.seq x y) Q s := by
  intro a w hs
  refine wp_seq (wp_mono (h a w hs) ?_)
  rintro e a' w' ⟨s', h1, h2⟩
  cases e with
  | normal => exact h2 a' w' h1
  | exit id => exact ⟨s', h1, h2⟩
  | goto l => exact ⟨s', h1, h2⟩
  | ret => exact ⟨s', h1, h2⟩
  | panic c => exact ⟨s', h1, h2⟩
  | outgrown => exact ⟨s', h1, h2⟩

theorem VW.block {id : Nat} {c : Code} (h : VW P n w0 E0 c (blockQ id Q) s) : VW P n w0 E0 (.block id c) Q s := by
  intro a w hs
  refine wp_block (wp_mono (h a w hs) ?_)
  rintro e a' w' ⟨s', h1, h2⟩
  cases e with
  | normal => exact ⟨s', h1, h2⟩
  | exit i =>
    simp only [blockQ] at h2
    simp only [Exit.inBlock]
    by_cases hi : i = id
    · subst hi
      rw [if_pos rfl]
      rw [show Nat.beq i i = true from Nat.beq_refl i] at h2
      exact ⟨s', h1, h2⟩
    · rw [if_neg hi]
      rw [show Nat.beq i id = false from by cases hb : Nat.beq i id; rfl; exact absurd (Nat.eq_of_beq_eq_true hb) hi] at h2
      exact ⟨s', h1, h2⟩
  | goto l => exact ⟨s', h1, h2⟩
  | ret => exact ⟨s', h1, h2⟩
  | panic c => exact ⟨s', h1, h2⟩
  | outgrown => exact ⟨s', h1, h2⟩

/-- A loop: an invariant that bears a number, which every round lowers. -/
theorem VW.loop {c : Code} (I : Nat → St → Prop) (k0 : Nat) (h0 : I k0 s)
    (round : ∀ k s, I k s → VW P n w0 E0 c (thenQ (fun s' => ∃ k', k' < k ∧ I k' s') Q) s) : VW P n w0 E0 (.loop c) Q s := by
  intro a w hs
  refine wp_loop_ghost (fun k a w => ∃ s, SRel n w0 E0 s a w ∧ I k s) k0 ⟨s, hs, h0⟩ ?_
  rintro k a w ⟨s, hs, hI⟩
  refine wp_mono (round k s hI a w hs) ?_
  rintro e a' w' ⟨s', h1, h2⟩
  cases e with
  | normal => obtain ⟨k', h3, h4⟩ := h2; exact ⟨k', h3, s', h1, h4⟩
  | exit id => exact ⟨s', h1, h2⟩
  | goto l => exact ⟨s', h1, h2⟩
  | ret => exact ⟨s', h1, h2⟩
  | panic c => exact ⟨s', h1, h2⟩
  | outgrown => exact ⟨s', h1, h2⟩

/-! ### operands -/
def constLf : Value → Option Lf
  | .int k x => some (.v (.int k) x)
  | .bool b => some (.v .bool b)
  | .string x => some (.v .str x)
  | .slice none 0 0 => some .nil
  | .pointer none => some .any
  | _ => none

def constLfs : List Value → Option (List Lf)
  | [] => some []
  | v :: l => match constLf v, constLfs l with
    | some a, some r => some (a :: r)
    | _, _ => none

def opnd (sl : List (Nat × AV)) : Operand → Option AV
  | .tmp k => cond (Nat.blt k gb) (look sl k) none
  | .const (.agg arr) => (constLfs arr.toList).map .agg
  | .const v => (constLf v).map .lf
  | .func f => some (.clo f [])
  | .global _ => none

theorem opnd_tmp {sl : List (Nat × AV)} {k : Nat} {v : AV} (h : opnd sl (.tmp k) = some v) : k < gb ∧ look sl k = some v := by
  simp only [opnd] at h
  cases hb : Nat.blt k gb with
  | false => rw [hb] at h; simp at h
  | true => rw [hb] at h; exact ⟨Nat.le_of_ble_eq_true hb, h⟩

theorem opnd_of {sl : List (Nat × AV)} {k : Nat} {v : AV} (hk : k < gb) (h : look sl k = some v) : opnd sl (.tmp k) = some v := by
  simp only [opnd, show Nat.blt k gb = true from Nat.ble_eq_true_of_le hk, cond_true, h]

theorem constLf_LR {w : World} {E : Env} {μ : Nat → Value} {H : Heap} : ∀ {v : Value} {a : Lf}, constLf v = some a → LR w E μ H a v
  | .int k x, a, h => by simp [constLf] at h; subst h; simp [LR, Rep, at0]
  | .bool b, a, h => by simp [constLf] at h; subst h; simp [LR, Rep, at0]
  | .string x, a, h => by simp [constLf] at h; subst h; simp [LR, Rep, at0]
  | .slice none 0 0, a, h => by simp [constLf] at h; subst h; exact ⟨none, rfl⟩
  | .slice (some _) _ _, a, h => by simp [constLf] at h
  | .slice none (_ + 1) _, a, h => by simp [constLf] at h
  | .slice none 0 (_ + 1), a, h => by simp [constLf] at h
  | .float .., a, h => by simp [constLf] at h
  | .complex .., a, h => by simp [constLf] at h
  | .pointer none, a, h => by simp [constLf] at h; subst h; rfl
  | .pointer (some _), a, h => by simp [constLf] at h
  | .map _, a, h => by simp [constLf] at h
  | .chan _, a, h => by simp [constLf] at h
  | .func .., a, h => by simp [constLf] at h
  | .nilFunc, a, h => by simp [constLf] at h
  | .iface .., a, h => by simp [constLf] at h
  | .nilIface, a, h => by simp [constLf] at h
  | .agg _, a, h => by simp [constLf] at h
  | .tuple _, a, h => by simp [constLf] at h

theorem constLfs_LR {w : World} {E : Env} {μ : Nat → Value} {H : Heap} : ∀ {vs : List Value} {l : List Lf}, constLfs vs = some l → All2 (LR w E μ H) l vs
  | [], l, h => by simp [constLfs] at h; subst h; exact .nil
  | v :: vs, l, h => by
    simp only [constLfs] at h
    split at h
    · rename_i a r h1 h2
      simp at h
      subst h
      exact .cons (constLf_LR h1) (constLfs_LR h2)
    · simp at h

/-- The machine's memory at a place of the walk, with its names. -/
structure At (n : Nat) (w0 : World) (E0 : Env0) (s : St) (a : Act) (w : World) (E : Env) (μ : Nat → Value) : Prop where
  size : a.tmps.size = n ∧ n ≤ gb
  defers : a.defers = []
  apart : ∀ b, E0.S b → E0.κ b = none
  mr : MR w E μ s.H 0
  ext : Ext w0 E0 w E
  slots : ∀ k v, look s.sl k = some v → ∃ y, getS E0 a k = some y ∧ AR w E μ s.H v y

theorem SRel.at {a : Act} {w : World} (h : SRel n w0 E0 s a w) : ∃ E μ, At n w0 E0 s a w E μ := by
  obtain ⟨h1, h2, h3, E, μ, h4, h5, h6⟩ := h
  exact ⟨E, μ, h1, h2, h3, h4, h5, h6⟩

theorem At.tmp {a : Act} {w : World} {E : Env} {μ : Nat → Value} (h : At n w0 E0 s a w E μ) {k : Nat} {v : AV} (hx : Vc.opnd s.sl (.tmp k) = some v) : ∃ y, a.tmps[k]? = some y ∧ AR w E μ s.H v y := by
  obtain ⟨hk, hx⟩ := opnd_tmp hx
  obtain ⟨y, h1, h2⟩ := h.slots k v hx
  rw [getS_lt hk] at h1
  exact ⟨y, h1, h2⟩

theorem At.rel {a : Act} {w : World} {E : Env} {μ : Nat → Value} (h : At n w0 E0 s a w E μ) : SRel n w0 E0 s a w := ⟨h.size, h.defers, h.apart, E, μ, h.mr, h.ext, h.slots⟩

theorem At.opnd {a : Act} {w : World} {E : Env} {μ : Nat → Value} (h : At n w0 E0 s a w E μ) : ∀ {x : Operand} {v : AV}, opnd s.sl x = some v → AR w E μ s.H v (a.eval x)
  | .tmp k, v, hx => by
    obtain ⟨hk, hx⟩ := opnd_tmp hx
    obtain ⟨y, h1, h2⟩ := h.slots k v hx
    rw [getS_lt hk] at h1
    simp only [Act.eval, Array.getD_eq_getD_getElem?, h1]
    exact h2
  | .const c, v, hx => by
    cases c with
    | agg arr =>
      simp only [Vc.opnd, Option.map_eq_some_iff] at hx
      obtain ⟨l, h1, rfl⟩ := hx
      exact ⟨arr, rfl, constLfs_LR h1⟩
    | _ =>
      simp only [Vc.opnd, Option.map_eq_some_iff] at hx
      obtain ⟨l, h1, rfl⟩ := hx
      exact constLf_LR h1
  | .func f, v, hx => by
    simp only [Vc.opnd, Option.some.injEq] at hx
    subst hx
    exact ⟨#[], rfl, .nil⟩
  | .global _, v, hx => by simp [Vc.opnd] at hx

theorem VW.cond {c : Operand} {x y : Code} {b : Bool} (hc : opnd s.sl c = some (.lf (.v .bool b))) (ht : b = true → VW P n w0 E0 x Q s) (hf : b = false → VW P n w0 E0 y Q s) :
    VW P n w0 E0 (.cond c x y) Q s := by
  intro a w hs
  obtain ⟨E, μ, hA⟩ := hs.at
  have := hA.opnd hc
  simp only [AR, LR, Rep, at0, if_true, Option.some.injEq] at this
  exact wp_cond_split this (fun h => ht h a w hs) (fun h => hf h a w hs)
end
end Go.Proofs.Ytgpddckjpokclaa.Vc
