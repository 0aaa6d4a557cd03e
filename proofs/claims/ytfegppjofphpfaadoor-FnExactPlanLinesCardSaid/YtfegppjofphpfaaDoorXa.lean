/- A calculus of values over the model: what a walk keeps as plain values, and the rules for the forms of code. It speaks of any program. -/
import Derived.Tactics
import Derived.Below
import Derived.Deep.LoopGhost
import Derived.Laws.Sem
import Derived.Laws.Cells
import Derived.Laws.Tables
import Derived.Laws.CopyRow
import Derived.ChangeKeysEq
import Derived.Laws.AppendOwn
import Derived.Laws.MakeOwn
import Derived.Great.BuildSlice
namespace Go.Proofs.YtfegppjofphpfaaDoor.Vc
open Go Go.RowKit
inductive Ty where
 | int (k : IntKind)
 | bool
 | str
 | sl (t : Ty)
 | pair (a b : Ty)
 deriving DecidableEq
@[reducible] def Ty.den : Ty → Type
 | .int _ => Int
 | .bool => Bool
 | .str => ByteArray
 | .sl t => List t.den
 | .pair a b => a.den × b.den
def Ty.lv : Ty → Nat
 | .pair a b => a.lv + b.lv
 | _ => 1
def Ty.dflt : (t : Ty) → t.den
 | .int _ => (0 : Int)
 | .bool => false
 | .str => ByteArray.empty
 | .sl _ => []
 | .pair a b => (a.dflt, b.dflt)
inductive Md where
 | fz | tp | dp
 deriving DecidableEq
def Md.nest : Md → Md
 | .dp => .dp
 | _ => .fz
inductive Root where
 | id (n : Nat)
 | res (n : Nat)
 deriving DecidableEq
inductive Pos where
 | top
 | inside (b k : Nat)
 deriving DecidableEq
structure Env where
 S : Nat → Prop
 κ : Nat → Option (Root × Pos)
def cellAt (w : World) (b k : Nat) : Option Value := w.cell? ⟨b, k, none⟩
theorem cellAt_eq {w w' : World} {b : Nat} (h : w'.heap[b]? = w.heap[b]?) (k : Nat) : cellAt w' b k = cellAt w b k := by
 simp only [cellAt, World.cell?, h]
def Rep (w : World) (E : Env) (r : Root) : (t : Ty) → t.den → Md → (Nat → Pos) → (Nat → Option Value) → Prop
  | .int k, n, _, _, g => g 0 = some (.int k n)
  | .bool, b, _, _, g => g 0 = some (.bool b)
  | .str, s, _, _, g => g 0 = some (.string s)
  | .pair a b, x, m, p, g => Rep w E r a x.1 m p g ∧ Rep w E r b x.2 m (fun i => p (i + a.lv)) (fun i => g (i + a.lv))
  | .sl t, xs, m, p, g => ∃ v, g 0 = some v ∧
      ((m = .fz ∧ ((xs = [] ∧ ∃ a c, v = .slice a 0 c) ∨
          ∃ b o c, v = .slice (some ⟨b, o, none⟩) xs.length c ∧ xs.length ≤ c ∧ E.S b ∧
            ∀ i (h : i < xs.length), Rep w E r t xs[i] .fz (fun j => .inside b (o + i * t.lv + j)) (fun j => cellAt w b (o + i * t.lv + j)))) ∨
       (m ≠ .fz ∧ ((xs = [] ∧ ∃ a, v = .slice a 0 0) ∨
          ∃ b c arr ty, v = .slice (some ⟨b, 0, none⟩) xs.length c ∧ xs.length ≤ c ∧ w.heap[b]? = some (.cells arr ty (0, 0)) ∧ arr.size = c * t.lv ∧
            E.κ b = some (r, p 0) ∧
            ∀ i (h : i < xs.length), Rep w E r t xs[i] m.nest (fun j => .inside b (i * t.lv + j)) (fun j => cellAt w b (i * t.lv + j)))))
theorem Rep.move {w w' : World} {E E' : Env} {r r' : Root} (A : Pos → Prop) (f : Pos → Pos)
    (hS : ∀ b, E.S b → E'.S b ∧ w'.heap[b]? = w.heap[b]?)
    (hκ : ∀ b q, A q → E.κ b = some (r, q) → E'.κ b = some (r', f q) ∧ w'.heap[b]? = w.heap[b]? ∧ ∀ k, A (.inside b k) ∧ f (.inside b k) = .inside b k) :
    ∀ (t : Ty) (x : t.den) (m : Md) (p p' : Nat → Pos) (g g' : Nat → Option Value),
      (m ≠ .fz → (∀ j, A (p j)) ∧ ∀ j, p' j = f (p j)) → (∀ j v, j < t.lv → g j = some v → g' j = some v) → Rep w E r t x m p g → Rep w' E' r' t x m p' g'
  | .int _, _, _, _, _, _, _, _, hg, h => hg _ _ (by simp [Ty.lv]) h
  | .bool, _, _, _, _, _, _, _, hg, h => hg _ _ (by simp [Ty.lv]) h
  | .str, _, _, _, _, _, _, _, hg, h => hg _ _ (by simp [Ty.lv]) h
  | .pair a b, x, m, p, p', g, g', hp, hg, h =>
    ⟨Rep.move A f hS hκ a x.1 m p p' g g' hp (fun j v hj => hg j v (by simp only [Ty.lv]; omega)) h.1,
     Rep.move A f hS hκ b x.2 m _ _ _ _ (fun hm => ⟨fun j => (hp hm).1 _, fun j => (hp hm).2 _⟩) (fun j v hj => hg _ v (by simp only [Ty.lv]; omega)) h.2⟩
  | .sl t, xs, m, p, p', g, g', hp, hg, h => by
    obtain ⟨v, h0, h⟩ := h
    refine ⟨v, hg _ _ (by simp [Ty.lv]) h0, ?_⟩
    rcases h with ⟨hm, h⟩ | ⟨hm, h⟩
    · refine .inl ⟨hm, ?_⟩
      rcases h with h | ⟨b, o, c, hv, hc, hb, h⟩
      · exact .inl h
      · obtain ⟨h1, h2⟩ := hS b hb
        exact .inr ⟨b, o, c, hv, hc, h1, fun i hi => Rep.move A f hS hκ t _ .fz _ _ _ _ (fun hm => absurd rfl hm) (fun j v _ hv => by rw [cellAt_eq h2]; exact hv) (h i hi)⟩
    · refine .inr ⟨hm, ?_⟩
      rcases h with h | ⟨b, c, arr, ty, hv, hc, hb, hs, hk, h⟩
      · exact .inl h
      · obtain ⟨hA, hf⟩ := hp hm
        obtain ⟨h1, h2, h3⟩ := hκ b _ (hA 0) hk
        refine .inr ⟨b, c, arr, ty, hv, hc, h2.trans hb, hs, by rw [hf]; exact h1, fun i hi => ?_⟩
        exact Rep.move A f hS hκ t _ m.nest _ _ _ _ (fun _ => ⟨fun j => (h3 _).1, fun j => (h3 _).2.symm⟩) (fun j v _ hv => by rw [cellAt_eq h2]; exact hv) (h i hi)
theorem Rep.fz {w w' : World} {E E' : Env} {r r' : Root} (hS : ∀ b, E.S b → E'.S b ∧ w'.heap[b]? = w.heap[b]?) (t : Ty) (x : t.den) {p p' : Nat → Pos} {g g' : Nat → Option Value}
  (hg : ∀ j v, j < t.lv → g j = some v → g' j = some v) (h : Rep w E r t x .fz p g) : Rep w' E' r' t x .fz p' g' := by
 have key : ∀ (t : Ty) (x : t.den) (p : Nat → Pos) (g : Nat → Option Value), Rep w E r t x .fz p g → Rep w ⟨E.S, fun _ => none⟩ r t x .fz p g := by
  intro t
  induction t with
  | int k => intro _ _ _ h; exact h
  | bool => intro _ _ _ h; exact h
  | str => intro _ _ _ h; exact h
  | pair a b iha ihb => intro x p g h; exact ⟨iha x.1 _ _ h.1, ihb x.2 _ _ h.2⟩
  | sl t ih =>
   intro xs p g h
   obtain ⟨v, h0, h⟩ := h
   rcases h with ⟨hm, h⟩ | ⟨hm, h⟩
   ·refine ⟨v, h0, .inl ⟨hm, ?_⟩⟩
    rcases h with h | ⟨b, o, c, hv, hc, hb, h⟩
    ·exact .inl h
    ·exact .inr ⟨b, o, c, hv, hc, hb, fun i hi => ih _ _ _ (h i hi)⟩
   ·exact absurd rfl hm
 exact Rep.move (E := ⟨E.S, fun _ => none⟩) (E' := E') (fun _ => True) id hS (fun b q _ h => by simp at h) t x .fz p p' g g' (fun hm => absurd rfl hm) hg (key t x p g h)
theorem Rep.freeze {w w' : World} {E E' : Env} {r r' : Root} (hS : ∀ b, E.S b → E'.S b ∧ w'.heap[b]? = w.heap[b]?)
  (hκ : ∀ b q, E.κ b = some (r, q) → E'.S b ∧ w'.heap[b]? = w.heap[b]?) :
  ∀ (t : Ty) (x : t.den) (m : Md) (p p' : Nat → Pos) (g g' : Nat → Option Value), (∀ j v, j < t.lv → g j = some v → g' j = some v) → Rep w E r t x m p g → Rep w' E' r' t x .fz p' g'
 | .int _, _, _, _, _, _, _, hg, h => hg _ _ (by simp [Ty.lv]) h
 | .bool, _, _, _, _, _, _, hg, h => hg _ _ (by simp [Ty.lv]) h
 | .str, _, _, _, _, _, _, hg, h => hg _ _ (by simp [Ty.lv]) h
 | .pair a b, x, m, p, p', g, g', hg, h =>
  ⟨Rep.freeze hS hκ a x.1 m p _ g g' (fun j v hj => hg j v (by simp only [Ty.lv]; omega)) h.1, Rep.freeze hS hκ b x.2 m _ _ _ _ (fun j v hj => hg _ v (by simp only [Ty.lv]; omega)) h.2⟩
 | .sl t, xs, m, p, p', g, g', hg, h => by
  obtain ⟨v, h0, h⟩ := h
  refine ⟨v, hg _ _ (by simp [Ty.lv]) h0, .inl ⟨rfl, ?_⟩⟩
  rcases h with ⟨hm, h⟩ | ⟨hm, h⟩
  ·rcases h with h | ⟨b, o, c, hv, hc, hb, h⟩
   ·exact .inl h
   ·obtain ⟨h1, h2⟩ := hS b hb
    exact .inr ⟨b, o, c, hv, hc, h1, fun i hi => Rep.freeze hS hκ t _ .fz _ _ _ _ (fun j v _ hv => by rw [cellAt_eq h2]; exact hv) (h i hi)⟩
  ·rcases h with ⟨h, a, ha⟩ | ⟨b, c, arr, ty, hv, hc, hb, hs, hk, h⟩
   ·exact .inl ⟨h, a, 0, ha⟩
   ·obtain ⟨h1, h2⟩ := hκ b _ hk
    refine .inr ⟨b, 0, c, hv, hc, h1, fun i hi => ?_⟩
    exact Rep.freeze hS hκ t _ m.nest _ _ _ _ (fun j v _ hv => by rw [cellAt_eq h2, Nat.zero_add]; exact hv) (h i hi)
end Go.Proofs.YtfegppjofphpfaaDoor.Vc
namespace Go.Proofs.YtfegppjofphpfaaDoor.Vc
open Go Go.RowKit
set_option linter.unusedVariables false
inductive All2 {α β : Type} (R : α → β → Prop) : List α → List β → Prop
 | nil : All2 R [] []
 | cons {x : α} {y : β} {xs : List α} {ys : List β} : R x y → All2 R xs ys → All2 R (x :: xs) (y :: ys)
theorem All2.imp {α β : Type} {R R' : α → β → Prop} (h : ∀ x y, R x y → R' x y) : ∀ {xs : List α} {ys : List β}, All2 R xs ys → All2 R' xs ys
 | _, _, .nil => .nil
 | _, _, .cons h1 h2 => .cons (h _ _ h1) (All2.imp h h2)
theorem All2.length {α β : Type} {R : α → β → Prop} : ∀ {xs : List α} {ys : List β}, All2 R xs ys → xs.length = ys.length
 | _, _, .nil => rfl
 | _, _, .cons _ h => by simp [All2.length h]
theorem All2.get {α β : Type} {R : α → β → Prop} : ∀ {xs : List α} {ys : List β}, All2 R xs ys → ∀ (i : Nat) (x : α), xs[i]? = some x → ∃ y, ys[i]? = some y ∧ R x y
 | _, _, .nil, i, x, h => by simp at h
 | _, _, .cons (y := y) h1 h2, 0, x, h => by
  simp at h
  subst h
  exact ⟨y, by simp, h1⟩
 | _, _, .cons h1 h2, i + 1, x, h => by
  obtain ⟨y, h3, h4⟩ := All2.get h2 i x (by simpa using h)
  exact ⟨y, by simpa using h3, h4⟩
theorem All2.append {α β : Type} {R : α → β → Prop} : ∀ {xs xs' : List α} {ys ys' : List β}, All2 R xs ys → All2 R xs' ys' → All2 R (xs ++ xs') (ys ++ ys')
 | _, _, _, _, .nil, h => h
 | _, _, _, _, .cons h1 h2, h => .cons h1 (All2.append h2 h)
inductive Lf where
 | v (t : Ty) (x : t.den)
 | nil
 | hd (id ver : Nat) (rng : Option (Nat × Nat))
 | ptr (id ver i j : Nat)
 | fp (t : Ty) (x : t.den) (j : Nat)
 | any
inductive Blk where
 | box (l : List Lf) (tid : TypeId)
 | arr (ver : Nat) (t : Ty) (xs : List t.den) (m : Md)
abbrev Heap := List (Option Blk)
inductive SV where
 | lf (a : Lf)
 | agg (l : List Lf)
inductive AV where
 | lf (a : Lf)
 | agg (l : List Lf)
 | tup (l : List SV)
 | clo (f : FuncId) (caps : List SV)
 | unk
def at0 (y : Value) : Nat → Option Value := fun j => if j = 0 then some y else none
def HdR (lv n : Nat) (V : Value) : Option (Nat × Nat) → Value → Prop
 | none, y => y = V
 | some (o, l), y => ∃ a c, V = .slice a n c ∧ n ≤ c ∧ o + l ≤ n ∧ (n = 0 ∨ ∃ b, a = some ⟨b, 0, none⟩) ∧ ∃ a', y = .slice a' l (c - o) ∧ (c ≠ o → a' = a.map (·.add (o * lv))) ∧ (o = 0 → a' = a)
theorem HdR.old {lv n o l : Nat} {V y : Value} (h : HdR lv n V (some (o, l)) y) : (l = 0 ∧ ∃ a c, y = .slice a 0 c) ∨ ∃ b c c', V = .slice (some ⟨b, 0, none⟩) n c ∧ y = .slice (some ⟨b, o * lv, none⟩) l c' ∧ o + l ≤ n ∧ l ≤ c' := by
 obtain ⟨a, c, h1, h2, h3, h4, a', h5, h6, _⟩ := h
 by_cases hl : l = 0
 ·subst hl
  exact .inl ⟨rfl, _, _, h5⟩
 ·obtain ⟨b, rfl⟩ := h4.resolve_left (by omega)
  refine .inr ⟨b, c, c - o, h1, ?_, h3, by omega⟩
  rw [h5, h6 (by omega), Option.map_some]
  unfold Addr.add
  split
  ·rename_i h0; rw [h0]
  ·simp
def LR (w : World) (E : Env) (μ : Nat → Value) (H : Heap) : Lf → Value → Prop
 | .v t x, y => Rep w E (.res 0) t x .fz (fun _ => .top) (at0 y)
 | .nil, y => ∃ a, y = .slice a 0 0
 | .hd id ver rng, y => y.oneCell' = true ∧ match H[id]? with
  | none => False
  | some none => True
  | some (some (.box _ _)) => False
  | some (some (.arr cur t xs _)) => ver ≤ cur ∧ (ver = cur → HdR t.lv xs.length (μ id) rng y)
 | .ptr id ver i j, y => y.oneCell' = true ∧ match H[id]? with
  | none => False
  | some none => True
  | some (some (.box _ _)) => ∃ b, μ id = .pointer (some ⟨b, 0, none⟩) ∧ y = .pointer (some ⟨b, j, none⟩)
  | some (some (.arr cur t xs _)) => ver ≤ cur ∧ (ver = cur → ∃ b n c, μ id = .slice (some ⟨b, 0, none⟩) n c ∧ y = .pointer (some ⟨b, i * t.lv + j, none⟩))
 | .fp t x j, y => ∃ b o, y = .pointer (some ⟨b, o + j, none⟩) ∧ E.S b ∧ Rep w E (.res 0) t x .fz (fun _ => .top) (fun k => cellAt w b (o + k))
 | .any, y => y.oneCell' = true
def SR (w : World) (E : Env) (μ : Nat → Value) (H : Heap) : SV → Value → Prop
 | .lf a, y => LR w E μ H a y
 | .agg l, y => ∃ arr : Array Value, y = .agg arr ∧ All2 (LR w E μ H) l arr.toList
def AR (w : World) (E : Env) (μ : Nat → Value) (H : Heap) : AV → Value → Prop
 | .lf a, y => LR w E μ H a y
 | .agg l, y => ∃ arr : Array Value, y = .agg arr ∧ All2 (LR w E μ H) l arr.toList
 | .tup l, y => ∃ arr : Array Value, y = .tuple arr ∧ All2 (SR w E μ H) l arr.toList
 | .clo f caps, y => ∃ arr : Array Value, y = .func (.func f) #[] arr ∧ All2 (SR w E μ H) caps arr.toList
 | .unk, y => y = undef
def NB (w : World) (E : Env) (μ : Nat → Value) (H : Heap) (id : Nat) : Blk → Prop
 | .box l tid => ∃ b arr, μ id = .pointer (some ⟨b, 0, none⟩) ∧ E.κ b = some (.id id, .top) ∧ w.heap[b]? = some (.cells arr tid (0, 0)) ∧ All2 (LR w E μ H) l arr.toList
 | .arr _ t xs m => m ≠ .fz ∧ Rep w E (.id id) (.sl t) xs m (fun _ => .top) (at0 (μ id))
structure MR (w : World) (E : Env) (μ : Nat → Value) (H : Heap) (k : Nat) : Prop where
 apart : ∀ b, E.S b → E.κ b = none
 ltS : ∀ b, E.S b → b < w.heap.size
 ltκ : ∀ b, E.κ b ≠ none → b < w.heap.size
 roots : ∀ b r q, E.κ b = some (r, q) → (∃ n, r = .id n ∧ n < H.length) ∨ ∃ n, r = .res n ∧ n < k
 blks : ∀ (id : Nat) blk, H[id]? = some (some blk) → NB w E μ H id blk
structure Ext (w0 : World) (E0 : Env) (w : World) (E : Env) : Prop where
 os : w.os = w0.os
 tape : w.tape = w0.tape
 output : w.output = w0.output
 size : w0.heap.size ≤ w.heap.size
 block : ∀ b, b < w0.heap.size → E0.κ b = none → w.heap[b]? = w0.heap[b]?
 grow : ∀ b, E0.S b → E.S b
 from_ : ∀ b, E.S b → E0.S b ∨ E0.κ b ≠ none ∨ w0.heap.size ≤ b
 own : ∀ b, E.κ b ≠ none → E0.κ b ≠ none ∨ w0.heap.size ≤ b
theorem Ext.refl (w : World) (E : Env) : Ext w E w E := ⟨rfl, rfl, rfl, Nat.le_refl _, fun _ _ _ => rfl, fun _ h => h, fun _ h => .inl h, fun _ h => .inl h⟩
theorem Ext.trans {w0 w1 w2 : World} {E0 E1 E2 : Env} (h : Ext w0 E0 w1 E1) (h0 : ∀ b, E0.S b → E0.κ b = none) (k : Ext w1 E1 w2 E2) : Ext w0 E0 w2 E2 where
  os := k.os.trans h.os
  tape := k.tape.trans h.tape
  output := k.output.trans h.output
  size := Nat.le_trans h.size k.size
  block := fun b hb hn => by
    have h1 := h.block b hb hn
    have : E1.κ b = none := by
      cases hk : E1.κ b with
      | none => rfl
      | some x => rcases h.own b (by simp [hk]) with h2 | h2
                  · exact absurd hn h2
                  · omega
    exact (k.block b (Nat.lt_of_lt_of_le hb h.size) this).trans h1
  grow := fun b hb => k.grow b (h.grow b hb)
  from_ := fun b hb => by
    rcases k.from_ b hb with h1 | h1 | h1
    · exact h.from_ b h1
    · exact .inr (h.own b h1)
    · exact .inr (.inr (Nat.le_trans h.size h1))
  own := fun b hb => by
    rcases k.own b hb with h1 | h1
    · exact h.own b h1
    · exact .inr (Nat.le_trans h.size h1)
def Kp (y y' : Value) : Option Blk → Option Blk → Prop
 | _, none => True
 | some (.box _ _), some (.box _ _) => y' = y
 | some (.arr v t xs _), some (.arr v' t' xs' _) => v < v' ∨ (v' = v ∧ t'.lv = t.lv ∧ xs'.length = xs.length ∧ y' = y)
 | _, _ => False
def KpH (μ μ' : Nat → Value) (H H' : Heap) : Prop := ∀ (id : Nat) b, H[id]? = some b → ∃ b', H'[id]? = some b' ∧ Kp (μ id) (μ' id) b b'
theorem Kp.refl (y : Value) (b : Option Blk) : Kp y y b b := by
 cases b with
 | none => trivial
 | some b => cases b <;> simp [Kp]
theorem KpH.refl (μ : Nat → Value) (H : Heap) : KpH μ μ H H := fun _ b h => ⟨b, h, Kp.refl _ b⟩
theorem LR.keep {w w' : World} {E E' : Env} {μ μ' : Nat → Value} {H H' : Heap} (hS : ∀ b, E.S b → E'.S b ∧ w'.heap[b]? = w.heap[b]?) (hH : KpH μ μ' H H') :
  ∀ (a : Lf) (y : Value), LR w E μ H a y → LR w' E' μ' H' a y
 | .v t x, y, h => Rep.fz hS t x (fun _ _ _ h => h) h
 | .nil, _, h => h
 | .hd id ver rng, y, h => by
  refine ⟨h.1, ?_⟩
  replace h := h.2
  cases hb : H[id]? with
  | none => rw [hb] at h; exact h.elim
  | some b =>
   rw [hb] at h
   obtain ⟨b', hb', hk⟩ := hH id b hb
   rw [hb']
   cases b' with
   | none => trivial
   | some b' =>
    cases b with
    | none => simp [Kp] at hk
    | some b =>
     cases b with
     | box l t => exact h.elim
     | arr v t xs m =>
      cases b' with
      | box l t => simp [Kp] at hk
      | arr v' t' xs' m' =>
       simp only [Kp] at hk
       rcases hk with hk | ⟨rfl, h2, h3, h4⟩
       ·exact ⟨by have := h.1; omega, fun e => by have := h.1; omega⟩
       ·exact ⟨h.1, fun e => by rw [h4, h2, h3]; exact h.2 e⟩
 | .ptr id ver i j, y, h => by
  refine ⟨h.1, ?_⟩
  replace h := h.2
  cases hb : H[id]? with
  | none => rw [hb] at h; exact h.elim
  | some b =>
   rw [hb] at h
   obtain ⟨b', hb', hk⟩ := hH id b hb
   rw [hb']
   cases b' with
   | none => trivial
   | some b' =>
    cases b with
    | none => simp [Kp] at hk
    | some b =>
     cases b with
     | box l t =>
      cases b' with
      | box l' t' => simp only [Kp] at hk; rw [hk]; exact h
      | arr v' t' xs' m' => simp [Kp] at hk
     | arr v t xs m =>
      cases b' with
      | box l t => simp [Kp] at hk
      | arr v' t' xs' m' =>
       simp only [Kp] at hk
       rcases hk with hk | ⟨rfl, h2, h3, h4⟩
       ·exact ⟨by have := h.1; omega, fun e => by have := h.1; omega⟩
       ·exact ⟨h.1, fun e => by rw [h4, h2]; exact h.2 e⟩
 | .fp t x j, y, h => by
  obtain ⟨b, o, h1, h2, h3⟩ := h
  obtain ⟨h4, h5⟩ := hS b h2
  exact ⟨b, o, h1, h4, Rep.fz hS t x (fun k v _ hv => by rw [cellAt_eq h5]; exact hv) h3⟩
 | .any, _, h => h
theorem SR.keep {w w' : World} {E E' : Env} {μ μ' : Nat → Value} {H H' : Heap} (hS : ∀ b, E.S b → E'.S b ∧ w'.heap[b]? = w.heap[b]?) (hH : KpH μ μ' H H') :
  ∀ (a : SV) (y : Value), SR w E μ H a y → SR w' E' μ' H' a y
 | .lf a, y, h => LR.keep hS hH a y h
 | .agg l, y, h => let ⟨arr, h1, h2⟩ := h; ⟨arr, h1, h2.imp (LR.keep hS hH)⟩
theorem AR.keep {w w' : World} {E E' : Env} {μ μ' : Nat → Value} {H H' : Heap} (hS : ∀ b, E.S b → E'.S b ∧ w'.heap[b]? = w.heap[b]?) (hH : KpH μ μ' H H') :
  ∀ (a : AV) (y : Value), AR w E μ H a y → AR w' E' μ' H' a y
 | .lf a, y, h => LR.keep hS hH a y h
 | .agg l, y, h => let ⟨arr, h1, h2⟩ := h; ⟨arr, h1, h2.imp (LR.keep hS hH)⟩
 | .tup l, y, h => let ⟨arr, h1, h2⟩ := h; ⟨arr, h1, h2.imp (SR.keep hS hH)⟩
 | .clo f l, y, h => let ⟨arr, h1, h2⟩ := h; ⟨arr, h1, h2.imp (SR.keep hS hH)⟩
 | .unk, _, h => h
structure St where
 sl : List (Nat × AV)
 H : Heap
def look : List (Nat × AV) → Nat → Option AV
 | [], _ => none
 | (j, v) :: l, k => cond (Nat.beq j k) (some v) (look l k)
structure Env0 extends Env where
 gv : Nat → Value
instance : Coe Env0 Env := ⟨Env0.toEnv⟩
def gb : Nat := 65536
def getS (E0 : Env0) (a : Act) (k : Nat) : Option Value := if k < gb then a.tmps[k]? else some (E0.gv k)
theorem getS_lt {E0 : Env0} {a : Act} {k : Nat} (h : k < gb) : getS E0 a k = a.tmps[k]? := if_pos h
structure SRel (n : Nat) (w0 : World) (E0 : Env0) (s : St) (a : Act) (w : World) : Prop where
 size : a.tmps.size = n ∧ n ≤ gb
 defers : a.defers = []
 apart : ∀ b, E0.S b → E0.κ b = none
 mem : ∃ E μ, MR w E μ s.H 0 ∧ Ext w0 E0 w E ∧ ∀ k v, look s.sl k = some v → ∃ y, getS E0 a k = some y ∧ AR w E μ s.H v y
def VW (P : Program) (n : Nat) (w0 : World) (E0 : Env0) (c : Code) (Q : Exit → St → Prop) (s : St) : Prop :=
 ∀ a w, SRel n w0 E0 s a w → c.wp P (fun e a' w' => ∃ s', SRel n w0 E0 s' a' w' ∧ Q e s') a w
abbrev thenQ (R : St → Prop) (Q : Exit → St → Prop) : Exit → St → Prop
 | .normal, s => R s
 | e, s => Q e s
abbrev blockQ (id : Nat) (Q : Exit → St → Prop) : Exit → St → Prop
 | .exit i, s => cond (Nat.beq i id) (Q .normal s) (Q (.exit i) s)
 | e, s => Q e s
section
variable {P : Program} {n : Nat} {w0 : World} {E0 : Env0} {Q : Exit → St → Prop} {s : St}
theorem VW.mono {c : Code} {Q' : Exit → St → Prop} (h : VW P n w0 E0 c Q s) (hq : ∀ e s, Q e s → Q' e s) : VW P n w0 E0 c Q' s :=
 fun a w hs => wp_mono (h a w hs) fun e _ _ ⟨s', h1, h2⟩ => ⟨s', h1, hq e s' h2⟩
theorem VW.skip (h : Q .normal s) : VW P n w0 E0 .skip Q s := fun _ _ hs => wp_skip ⟨s, hs, h⟩
theorem VW.ret (h : Q .ret s) : VW P n w0 E0 .ret Q s := fun _ _ hs => wp_ret ⟨s, hs, h⟩
theorem VW.exit {id : Nat} (h : Q (.exit id) s) : VW P n w0 E0 (.exit id) Q s := fun _ _ hs => wp_exit ⟨s, hs, h⟩
theorem VW.seq {x y : Code} (h : VW P n w0 E0 x (thenQ (VW P n w0 E0 y Q) Q) s) : VW P n w0 E0 (.seq x y) Q s := by
 intro a w hs
 refine wp_seq (wp_mono (h a w hs) ?_)
 rintro e a' w' ⟨s', h1, h2⟩
 cases e with
 | normal => exact h2 a' w' h1
 | exit id => exact ⟨s', h1, h2⟩
 | goto l => exact ⟨s', h1, h2⟩
 | ret => exact ⟨s', h1, h2⟩
 | panic c => exact ⟨s', h1, h2⟩
 | outgrown => exact ⟨s', h1, h2⟩
theorem VW.block {id : Nat} {c : Code} (h : VW P n w0 E0 c (blockQ id Q) s) : VW P n w0 E0 (.block id c) Q s := by
 intro a w hs
 refine wp_block (wp_mono (h a w hs) ?_)
 rintro e a' w' ⟨s', h1, h2⟩
 cases e with
 | normal => exact ⟨s', h1, h2⟩
 | exit i =>
  simp only [blockQ] at h2
  simp only [Exit.inBlock]
  by_cases hi : i = id
  ·subst hi
   rw [if_pos rfl]
   rw [show Nat.beq i i = true from Nat.beq_refl i] at h2
   exact ⟨s', h1, h2⟩
  ·rw [if_neg hi]
   rw [show Nat.beq i id = false from by cases hb : Nat.beq i id; rfl; exact absurd (Nat.eq_of_beq_eq_true hb) hi] at h2
   exact ⟨s', h1, h2⟩
 | goto l => exact ⟨s', h1, h2⟩
 | ret => exact ⟨s', h1, h2⟩
 | panic c => exact ⟨s', h1, h2⟩
 | outgrown => exact ⟨s', h1, h2⟩
theorem VW.loop {c : Code} (I : Nat → St → Prop) (k0 : Nat) (h0 : I k0 s)
  (round : ∀ k s, I k s → VW P n w0 E0 c (thenQ (fun s' => ∃ k', k' < k ∧ I k' s') Q) s) : VW P n w0 E0 (.loop c) Q s := by
 intro a w hs
 refine wp_loop_ghost (fun k a w => ∃ s, SRel n w0 E0 s a w ∧ I k s) k0 ⟨s, hs, h0⟩ ?_
 rintro k a w ⟨s, hs, hI⟩
 refine wp_mono (round k s hI a w hs) ?_
 rintro e a' w' ⟨s', h1, h2⟩
 cases e with
 | normal => obtain ⟨k', h3, h4⟩ := h2; exact ⟨k', h3, s', h1, h4⟩
 | exit id => exact ⟨s', h1, h2⟩
 | goto l => exact ⟨s', h1, h2⟩
 | ret => exact ⟨s', h1, h2⟩
 | panic c => exact ⟨s', h1, h2⟩
 | outgrown => exact ⟨s', h1, h2⟩
def constLf : Value → Option Lf
 | .int k x => some (.v (.int k) x)
 | .bool b => some (.v .bool b)
 | .string x => some (.v .str x)
 | .slice none 0 0 => some .nil
 | .pointer none => some .any
 | _ => none
def constLfs : List Value → Option (List Lf)
 | [] => some []
 | v :: l => match constLf v, constLfs l with
  | some a, some r => some (a :: r)
  | _, _ => none
def opnd (sl : List (Nat × AV)) : Operand → Option AV
 | .tmp k => cond (Nat.blt k gb) (look sl k) none
 | .const (.agg arr) => (constLfs arr.toList).map .agg
 | .const v => (constLf v).map .lf
 | .func f => some (.clo f [])
 | .global _ => none
theorem opnd_tmp {sl : List (Nat × AV)} {k : Nat} {v : AV} (h : opnd sl (.tmp k) = some v) : k < gb ∧ look sl k = some v := by
 simp only [opnd] at h
 cases hb : Nat.blt k gb with
 | false => rw [hb] at h; simp at h
 | true => rw [hb] at h; exact ⟨Nat.le_of_ble_eq_true hb, h⟩
theorem opnd_of {sl : List (Nat × AV)} {k : Nat} {v : AV} (hk : k < gb) (h : look sl k = some v) : opnd sl (.tmp k) = some v := by
 simp only [opnd, show Nat.blt k gb = true from Nat.ble_eq_true_of_le hk, cond_true, h]
theorem constLf_LR {w : World} {E : Env} {μ : Nat → Value} {H : Heap} : ∀ {v : Value} {a : Lf}, constLf v = some a → LR w E μ H a v
 | .int k x, a, h => by simp [constLf] at h; subst h; simp [LR, Rep, at0]
 | .bool b, a, h => by simp [constLf] at h; subst h; simp [LR, Rep, at0]
 | .string x, a, h => by simp [constLf] at h; subst h; simp [LR, Rep, at0]
 | .slice none 0 0, a, h => by simp [constLf] at h; subst h; exact ⟨none, rfl⟩
 | .slice (some _) _ _, a, h => by simp [constLf] at h
 | .slice none (_ + 1) _, a, h => by simp [constLf] at h
 | .slice none 0 (_ + 1), a, h => by simp [constLf] at h
 | .float .., a, h => by simp [constLf] at h
 | .complex .., a, h => by simp [constLf] at h
 | .pointer none, a, h => by simp [constLf] at h; subst h; rfl
 | .pointer (some _), a, h => by simp [constLf] at h
 | .map _, a, h => by simp [constLf] at h
 | .chan _, a, h => by simp [constLf] at h
 | .func .., a, h => by simp [constLf] at h
 | .nilFunc, a, h => by simp [constLf] at h
 | .iface .., a, h => by simp [constLf] at h
 | .nilIface, a, h => by simp [constLf] at h
 | .agg _, a, h => by simp [constLf] at h
 | .tuple _, a, h => by simp [constLf] at h
theorem constLfs_LR {w : World} {E : Env} {μ : Nat → Value} {H : Heap} : ∀ {vs : List Value} {l : List Lf}, constLfs vs = some l → All2 (LR w E μ H) l vs
 | [], l, h => by simp [constLfs] at h; subst h; exact .nil
 | v :: vs, l, h => by
  simp only [constLfs] at h
  split at h
  ·rename_i a r h1 h2
   simp at h
   subst h
   exact .cons (constLf_LR h1) (constLfs_LR h2)
  ·simp at h
structure At (n : Nat) (w0 : World) (E0 : Env0) (s : St) (a : Act) (w : World) (E : Env) (μ : Nat → Value) : Prop where
 size : a.tmps.size = n ∧ n ≤ gb
 defers : a.defers = []
 apart : ∀ b, E0.S b → E0.κ b = none
 mr : MR w E μ s.H 0
 ext : Ext w0 E0 w E
 slots : ∀ k v, look s.sl k = some v → ∃ y, getS E0 a k = some y ∧ AR w E μ s.H v y
theorem SRel.at {a : Act} {w : World} (h : SRel n w0 E0 s a w) : ∃ E μ, At n w0 E0 s a w E μ := by
 obtain ⟨h1, h2, h3, E, μ, h4, h5, h6⟩ := h
 exact ⟨E, μ, h1, h2, h3, h4, h5, h6⟩
theorem At.tmp {a : Act} {w : World} {E : Env} {μ : Nat → Value} (h : At n w0 E0 s a w E μ) {k : Nat} {v : AV} (hx : Vc.opnd s.sl (.tmp k) = some v) : ∃ y, a.tmps[k]? = some y ∧ AR w E μ s.H v y := by
 obtain ⟨hk, hx⟩ := opnd_tmp hx
 obtain ⟨y, h1, h2⟩ := h.slots k v hx
 rw [getS_lt hk] at h1
 exact ⟨y, h1, h2⟩
theorem At.rel {a : Act} {w : World} {E : Env} {μ : Nat → Value} (h : At n w0 E0 s a w E μ) : SRel n w0 E0 s a w := ⟨h.size, h.defers, h.apart, E, μ, h.mr, h.ext, h.slots⟩
theorem At.opnd {a : Act} {w : World} {E : Env} {μ : Nat → Value} (h : At n w0 E0 s a w E μ) : ∀ {x : Operand} {v : AV}, opnd s.sl x = some v → AR w E μ s.H v (a.eval x)
 | .tmp k, v, hx => by
  obtain ⟨hk, hx⟩ := opnd_tmp hx
  obtain ⟨y, h1, h2⟩ := h.slots k v hx
  rw [getS_lt hk] at h1
  simp only [Act.eval, Array.getD_eq_getD_getElem?, h1]
  exact h2
 | .const c, v, hx => by
  cases c with
  | agg arr =>
   simp only [Vc.opnd, Option.map_eq_some_iff] at hx
   obtain ⟨l, h1, rfl⟩ := hx
   exact ⟨arr, rfl, constLfs_LR h1⟩
  | _ =>
   simp only [Vc.opnd, Option.map_eq_some_iff] at hx
   obtain ⟨l, h1, rfl⟩ := hx
   exact constLf_LR h1
 | .func f, v, hx => by
  simp only [Vc.opnd, Option.some.injEq] at hx
  subst hx
  exact ⟨#[], rfl, .nil⟩
 | .global _, v, hx => by simp [Vc.opnd] at hx
theorem VW.cond {c : Operand} {x y : Code} {b : Bool} (hc : opnd s.sl c = some (.lf (.v .bool b))) (ht : b = true → VW P n w0 E0 x Q s) (hf : b = false → VW P n w0 E0 y Q s) :
  VW P n w0 E0 (.cond c x y) Q s := by
 intro a w hs
 obtain ⟨E, μ, hA⟩ := hs.at
 have := hA.opnd hc
 simp only [AR, LR, Rep, at0, if_true, Option.some.injEq] at this
 exact wp_cond_split this (fun h => ht h a w hs) (fun h => hf h a w hs)
end
end Go.Proofs.YtfegppjofphpfaaDoor.Vc
namespace Go.Proofs.YtfegppjofphpfaaDoor.Vc
open Go Go.RowKit
set_option linter.unusedVariables false
structure TI where
 ty : Ty
 elem : TypeId := 0
 offs : List Nat := []
 szs : List Nat := []
abbrev Tab := TypeId → Option TI
def Ty.zeros : Ty → List Value
 | .int k => [.int k 0]
 | .bool => [.bool false]
 | .str => [.string ByteArray.empty]
 | .sl _ => [.slice none 0 0]
 | .pair a b => a.zeros ++ b.zeros
def Ty.isPair : Ty → Bool
 | .pair _ _ => true
 | _ => false
structure TIOk (P : Program) (T : Tab) (t : TypeId) (i : TI) : Prop where
 info : ∃ info, P.info? t = some info ∧ info.size = i.ty.lv ∧ (info.zero.map fun z => z.cells.toList) = some i.ty.zeros ∧ 0 < info.bytes ∧ info.bytes ≤ 4096 ∧ info.bytes ≤ 16 * i.ty.lv + 8 * i.ty.lv
 under : match i.ty with
  | .int k => P.underlying t = some (.int k)
  | .bool => P.underlying t = some .bool
  | .str => P.underlying t = some .string
  | .sl e => P.underlying t = some (.slice i.elem) ∧ ∃ j, T i.elem = some j ∧ j.ty = e
  | .pair _ _ => ∃ fs : Array Field, P.underlying t = some (.struct fs) ∧
    (∀ (k o : Nat), i.offs[k]? = some o → ∃ f info', fs[k]? = some f ∧ f.offset = o ∧ P.info? f.type = some info' ∧ info'.size ≠ 0) ∧
    fs.toList.mapM (fun f => (P.info? f.type).map fun j => (f.offset, j.size)) = some (i.offs.zip i.szs)
def TabOk (P : Program) (T : Tab) : Prop := ∀ t i, T t = some i → TIOk P T t i
section
variable {P : Program} {T : Tab}
theorem TabOk.slice (h : TabOk P T) {t : TypeId} {i : TI} {e : Ty} (hi : T t = some i) (he : i.ty = .sl e) :
  P.underlying t = some (.slice i.elem) ∧ ∃ j, T i.elem = some j ∧ j.ty = e := by
 have := (h t i hi).under
 rw [he] at this
 exact this
theorem run_sizeOf' {t : TypeId} {info : TypeInfo} (h : P.info? t = some info) (w : World) : (sizeOf t).run P w = .ok info.size w := by
 simp [sizeOf, typeInfo, h]
theorem TabOk.size (h : TabOk P T) {t : TypeId} {i : TI} (hi : T t = some i) (w : World) : (sizeOf t).run P w = .ok i.ty.lv w := by
 obtain ⟨info, h1, h2, _⟩ := (h t i hi).info
 rw [run_sizeOf' h1, h2]
theorem TabOk.isAgg (h : TabOk P T) {t : TypeId} {i : TI} (hi : T t = some i) (w : World) : (isAgg t).run P w = .ok i.ty.isPair w := by
 have hu := (h t i hi).under
 cases hty : i.ty with
 | int k => rw [hty] at hu; simp only [Go.isAgg, Sem.run_bind, run_underlying hu, Result.andThen_ok, Sem.run_pure, Ty.isPair]
 | bool => rw [hty] at hu; simp only [Go.isAgg, Sem.run_bind, run_underlying hu, Result.andThen_ok, Sem.run_pure, Ty.isPair]
 | str => rw [hty] at hu; simp only [Go.isAgg, Sem.run_bind, run_underlying hu, Result.andThen_ok, Sem.run_pure, Ty.isPair]
 | sl e => rw [hty] at hu; simp only [Go.isAgg, Sem.run_bind, run_underlying hu.1, Result.andThen_ok, Sem.run_pure, Ty.isPair]
 | pair a b =>
  rw [hty] at hu
  obtain ⟨fs, hu, _⟩ := hu
  simp only [Go.isAgg, Sem.run_bind, run_underlying hu, Result.andThen_ok, Sem.run_pure, Ty.isPair]
theorem add_at (b o n : Nat) : (⟨b, o, none⟩ : Addr).add n = ⟨b, o + n, none⟩ := by
 unfold Addr.add
 split
 ·rename_i h; subst h; rfl
 ·rfl
theorem TabOk.loadVar (h : TabOk P T) {t : TypeId} {i : TI} (hi : T t = some i) (w : World) (b o : Nat) (cs : List Value) (hl : cs.length = i.ty.lv)
  (hc : ∀ (j : Nat) v, cs[j]? = some v → cellAt w b (o + j) = some v) :
  (loadVar t ⟨b, o, none⟩).run P w = .ok (if i.ty.isPair then .agg cs.toArray else cs.getD 0 undef) w := by
 unfold Go.loadVar
 simp only [Sem.run_bind, h.isAgg hi, Result.andThen_ok]
 by_cases hp : i.ty.isPair = true
 ·simp only [hp, if_true, Sem.run_bind, h.size hi, Result.andThen_ok]
  rw [← hl, run_loadCells_list w ⟨b, o, none⟩ cs (fun j v hv => by rw [add_at]; exact hc j v hv)]
  simp
 ·have hp' : i.ty.isPair = false := by simpa using hp
  have h1 : cs.length = 1 := by
   rw [hl]
   cases hty : i.ty <;> simp [Ty.lv, hty, Ty.isPair] at hp' ⊢
  match cs, h1 with
  | [v], _ =>
   have := hc 0 v rfl
   simp only [hp', Bool.false_eq_true, if_false, run_load]
   simp only [cellAt, Nat.add_zero] at this
   simp [this]
end
def leafs : (t : Ty) → t.den → Md → List Lf
 | .int k, x, _ => [.v (.int k) x]
 | .bool, x, _ => [.v .bool x]
 | .str, x, _ => [.v .str x]
 | .sl t, x, .fz => [.v (.sl t) x]
 | .sl _, _, _ => [.any]
 | .pair a b, x, m => leafs a x.1 m ++ leafs b x.2 m
theorem leafs_length : ∀ (t : Ty) (x : t.den) (m : Md), (leafs t x m).length = t.lv
 | .int _, _, _ => rfl
 | .bool, _, _ => rfl
 | .str, _, _ => rfl
 | .sl _, _, .fz => rfl
 | .sl _, _, .tp => rfl
 | .sl _, _, .dp => rfl
 | .pair a b, x, m => by simp [leafs, leafs_length a, leafs_length b, Ty.lv]
theorem rep_sl_one {w : World} {E : Env} {r : Root} {t : Ty} {xs : List t.den} {m : Md} {p : Nat → Pos} {g : Nat → Option Value} (h : Rep w E r (.sl t) xs m p g) {v : Value} (hv : g 0 = some v) : v.oneCell' = true := by
 obtain ⟨v', h1, h2⟩ := h
 rw [hv] at h1
 simp only [Option.some.injEq] at h1
 subst h1
 rcases h2 with ⟨_, ⟨_, a, c, rfl⟩ | ⟨b, o, c, rfl, _⟩⟩ | ⟨_, ⟨_, a, rfl⟩ | ⟨b, c, arr, ty, rfl, _⟩⟩ <;> rfl
theorem leafs_at {w : World} {E : Env} {μ : Nat → Value} {H : Heap} {r : Root} : ∀ (t : Ty) (x : t.den) (m : Md) (p : Nat → Pos) (g : Nat → Option Value), Rep w E r t x m p g →
    ∀ (j : Nat) a, (leafs t x m)[j]? = some a → ∃ y, g j = some y ∧ LR w E μ H a y
  | .int k, x, m, p, g, h, j, a, ha => by
    cases j with
    | zero => simp [leafs] at ha; subst ha; exact ⟨_, h, by simp [LR, Rep, at0]⟩
    | succ j => simp [leafs] at ha
  | .bool, x, m, p, g, h, j, a, ha => by
    cases j with
    | zero => simp [leafs] at ha; subst ha; exact ⟨_, h, by simp [LR, Rep, at0]⟩
    | succ j => simp [leafs] at ha
  | .str, x, m, p, g, h, j, a, ha => by
    cases j with
    | zero => simp [leafs] at ha; subst ha; exact ⟨_, h, by simp [LR, Rep, at0]⟩
    | succ j => simp [leafs] at ha
  | .sl t, x, m, p, g, h, j, a, ha => by
    have h0 := h
    obtain ⟨v, hv, _⟩ := h
    cases j with
    | zero =>
      refine ⟨v, hv, ?_⟩
      cases m with
      | fz =>
        simp [leafs] at ha
        subst ha
        show Rep w E (.res 0) (.sl t) x .fz (fun _ => .top) (at0 v)
        obtain ⟨v', hv', h1⟩ := h0
        have e : v' = v := by rw [hv] at hv'; simpa using hv'.symm
        subst e
        refine ⟨v', by simp [at0], ?_⟩
        rcases h1 with ⟨_, h1⟩ | ⟨h1, _⟩
        · refine .inl ⟨rfl, ?_⟩
          rcases h1 with h1 | ⟨b, o, c, e1, e2, e3, e4⟩
          · exact .inl h1
          · exact .inr ⟨b, o, c, e1, e2, e3, fun i hi => Rep.fz (fun b hb => ⟨hb, rfl⟩) t _ (fun _ _ _ h => h) (e4 i hi)⟩
        · exact absurd rfl h1
      | tp => simp [leafs] at ha; subst ha; exact rep_sl_one h0 hv
      | dp => simp [leafs] at ha; subst ha; exact rep_sl_one h0 hv
    | succ j => cases m <;> simp [leafs] at ha
  | .pair t u, x, m, p, g, h, j, a, ha => by
    simp only [leafs, List.getElem?_append, leafs_length] at ha
    split at ha
    · exact leafs_at t x.1 m p g h.1 j a ha
    · rename_i hj
      obtain ⟨y, h1, h2⟩ := leafs_at u x.2 m _ _ h.2 (j - t.lv) a ha
      exact ⟨y, by have e : j - t.lv + t.lv = j := by omega
                   rw [e] at h1; exact h1, h2⟩
def binI (op : BinOp) (k : IntKind) (a b : Int) : Option (Prop × AV) :=
 match op with
 | .add => some (True, .lf (.v (.int k) (k.wrap (a + b))))
 | .sub => some (True, .lf (.v (.int k) (k.wrap (a - b))))
 | .mul => some (True, .lf (.v (.int k) (k.wrap (a * b))))
 | .quo => some (b ≠ 0, .lf (.v (.int k) (k.wrap (a.tdiv b))))
 | .rem => some (b ≠ 0, .lf (.v (.int k) (a.tmod b)))
 | .and => some (True, .lf (.v (.int k) (k.wrap (BitVec.ofInt k.bits a &&& BitVec.ofInt k.bits b).toNat)))
 | .or => some (True, .lf (.v (.int k) (k.wrap (BitVec.ofInt k.bits a ||| BitVec.ofInt k.bits b).toNat)))
 | .xor => some (True, .lf (.v (.int k) (k.wrap (BitVec.ofInt k.bits a ^^^ BitVec.ofInt k.bits b).toNat)))
 | .eql => some (True, .lf (.v .bool (a == b)))
 | .neq => some (True, .lf (.v .bool (a != b)))
 | .lss => some (True, .lf (.v .bool (decide (a < b))))
 | .leq => some (True, .lf (.v .bool (decide (a ≤ b))))
 | .gtr => some (True, .lf (.v .bool (decide (a > b))))
 | .geq => some (True, .lf (.v .bool (decide (a ≥ b))))
 | _ => none
def binSh (op : BinOp) (k : IntKind) (a b : Int) : Option (Prop × AV) :=
 match op with
 | .shl => some (0 ≤ b, .lf (.v (.int k) (k.wrap (a * 2 ^ (min b.toNat k.bits)))))
 | .shr => some (0 ≤ b, .lf (.v (.int k) (a.fdiv (2 ^ (min b.toNat k.bits)))))
 | _ => none
def binS (op : BinOp) (a b : ByteArray) : Option (Prop × AV) :=
 match op with
 | .add => some (a.size + b.size ≤ 9223372036854775807, .lf (.v .str (a ++ b)))
 | .eql => some (True, .lf (.v .bool (a.toList == b.toList)))
 | .neq => some (True, .lf (.v .bool (!(a.toList == b.toList))))
 | .lss => some (True, .lf (.v .bool (Op.bytesLess a.toList b.toList)))
 | .geq => some (True, .lf (.v .bool (!(Op.bytesLess a.toList b.toList))))
 | .leq => some (True, .lf (.v .bool (Op.bytesLess a.toList b.toList || a.toList == b.toList)))
 | .gtr => some (True, .lf (.v .bool (!(Op.bytesLess a.toList b.toList || a.toList == b.toList))))
 | _ => none
def binB (T : Tab) (t : TypeId) (op : BinOp) (a b : Bool) : Option (Prop × AV) :=
 match T t with
 | some { ty := .bool, .. } => match op with
  | .eql => some (True, .lf (.v .bool (a == b)))
  | .neq => some (True, .lf (.v .bool (!(a == b))))
  | _ => none
 | _ => none
def isSh : BinOp → Bool
 | .shl | .shr => true
 | _ => false
def bin (T : Tab) (op : BinOp) (t : TypeId) : AV → AV → Option (Prop × AV)
 | .lf (.v (.int k) a), .lf (.v (.int k') b) => cond (isSh op) (binSh op k a b) (if k = k' then binI op k a b else none)
 | .lf (.v .str a), .lf (.v .str b) => binS op a b
 | .lf (.v .bool a), .lf (.v .bool b) => binB T t op a b
 | _, _ => none
theorem LR_int {w : World} {E : Env} {μ : Nat → Value} {H : Heap} {k : IntKind} {x : Int} {y : Value} : LR w E μ H (.v (.int k) x) y ↔ y = .int k x := by
 simp [LR, Rep, at0]
theorem LR_bool {w : World} {E : Env} {μ : Nat → Value} {H : Heap} {x : Bool} {y : Value} : LR w E μ H (.v .bool x) y ↔ y = .bool x := by
 simp [LR, Rep, at0]
theorem LR_str {w : World} {E : Env} {μ : Nat → Value} {H : Heap} {x : ByteArray} {y : Value} : LR w E μ H (.v .str x) y ↔ y = .string x := by
 simp [LR, Rep, at0]
section
variable {P : Program} {T : Tab}
theorem AR_int {w : World} {E : Env} {μ : Nat → Value} {H : Heap} (k : IntKind) (x : Int) : AR w E μ H (.lf (.v (.int k) x)) (.int k x) := by simp only [AR, LR_int]
theorem AR_bool {w : World} {E : Env} {μ : Nat → Value} {H : Heap} (x : Bool) : AR w E μ H (.lf (.v .bool x)) (.bool x) := by simp only [AR, LR_bool]
theorem AR_str {w : World} {E : Env} {μ : Nat → Value} {H : Heap} (x : ByteArray) : AR w E μ H (.lf (.v .str x)) (.string x) := by simp only [AR, LR_str]
theorem binI_run {P : Program} {op : BinOp} {k : IntKind} {a b : Int} {φ : Prop} {v : AV} (h : binI op k a b = some (φ, v)) (hφ : φ) (t : TypeId) (w : World) (E : Env) (μ : Nat → Value) (H : Heap) :
  ∃ y, (binOp op t (.int k a) (.int k b)).run P w = .ok y w ∧ AR w E μ H v y := by
 cases op <;> simp only [binI, Option.some.injEq, Prod.mk.injEq, reduceCtorEq] at h <;> obtain ⟨rfl, rfl⟩ := h <;>
  simp [binOp, Op.intArith, Op.intDiv, Op.intBits, Op.intCmp, AR, LR_int, LR_bool] <;> simp_all
theorem binSh_run {P : Program} {op : BinOp} {k k' : IntKind} {a b : Int} {φ : Prop} {v : AV} (h : binSh op k a b = some (φ, v)) (hφ : φ) (t : TypeId) (w : World) (E : Env) (μ : Nat → Value) (H : Heap) :
  ∃ y, (binOp op t (.int k a) (.int k' b)).run P w = .ok y w ∧ AR w E μ H v y := by
 cases op <;> simp only [binSh, Option.some.injEq, Prod.mk.injEq, reduceCtorEq] at h <;> obtain ⟨rfl, rfl⟩ := h <;>
  simp [binOp, Op.shift, AR, LR_int, show ¬ b < 0 by omega]
theorem binS_run {P : Program} {op : BinOp} {a b : ByteArray} {φ : Prop} {v : AV} (h : binS op a b = some (φ, v)) (hφ : φ) (t : TypeId) (w : World) (E : Env) (μ : Nat → Value) (H : Heap) :
  ∃ y, (binOp op t (.string a) (.string b)).run P w = .ok y w ∧ AR w E μ H v y := by
 cases op <;> simp only [binS, Option.some.injEq, Prod.mk.injEq, reduceCtorEq] at h <;> obtain ⟨rfl, rfl⟩ := h
 case add =>
  have h1 : ¬ ((a.size + b.size : Nat) : Int) > IntKind.i64.max := by
   have : IntKind.i64.max = 9223372036854775807 := by decide
   rw [this]; omega
  simp only [binOp, Op.stringOp, if_neg h1]
  exact ⟨_, rfl, (LR_str (w := w) (E := E) (μ := μ) (H := H)).2 rfl⟩
 all_goals exact ⟨_, rfl, (LR_bool (w := w) (E := E) (μ := μ) (H := H)).2 rfl⟩
theorem equalIn_bool (d : Nat) {t : TypeId} (hu : P.underlying t = some .bool) (a b : Bool) (w : World) : (Op.equalIn (d + 1) t (.bool a) (.bool b)).run P w = .ok (a == b) w := by
 simp only [Op.equalIn, Sem.run_bind, run_underlying hu, Result.andThen_ok, Sem.run_pure]
theorem binB_run {op : BinOp} {a b : Bool} {φ : Prop} {v : AV} {t : TypeId} (hT : TabOk P T) (h : binB T t op a b = some (φ, v)) (hφ : φ) (w : World) (E : Env) (μ : Nat → Value) (H : Heap) :
  ∃ y, (binOp op t (.bool a) (.bool b)).run P w = .ok y w ∧ AR w E μ H v y := by
 unfold binB at h
 split at h
 ·rename_i e o hi
  have hu := (hT t _ hi).under
  simp only at hu
  have he : (Op.equal t (.bool a) (.bool b)).run P w = .ok (a == b) w := equalIn_bool 9999 hu a b w
  cases op <;> simp only [Option.some.injEq, Prod.mk.injEq, reduceCtorEq] at h <;> obtain ⟨rfl, rfl⟩ := h
  ·exact ⟨.bool (a == b), by simp [binOp, he], (LR_bool (w := w) (E := E) (μ := μ) (H := H)).2 rfl⟩
  ·exact ⟨.bool (!(a == b)), by simp [binOp, he], (LR_bool (w := w) (E := E) (μ := μ) (H := H)).2 rfl⟩
 ·simp at h
theorem bin_run {op : BinOp} {x y : AV} {φ : Prop} {v : AV} {t : TypeId} (hT : TabOk P T) (h : bin T op t x y = some (φ, v)) (hφ : φ) (w : World) (E : Env) (μ : Nat → Value) (H : Heap) {a b : Value}
  (ha : AR w E μ H x a) (hb : AR w E μ H y b) :
  (∃ k n k' n', a = .int k n ∧ b = .int k' n' ∨ ∃ s s', a = .string s ∧ b = .string s' ∨ ∃ p q, a = .bool p ∧ b = .bool q) ∧ ∃ z, (binOp op t a b).run P w = .ok z w ∧ AR w E μ H v z := by
 unfold bin at h
 split at h
 ·rename_i k m k' n
  simp only [AR, LR_int] at ha hb
  subst ha hb
  refine ⟨⟨k, m, k', n, .inl ⟨rfl, rfl⟩⟩, ?_⟩
  cases hs : isSh op with
  | true => rw [hs] at h; exact binSh_run h hφ t w E μ H
  | false =>
   rw [hs] at h
   simp only [cond_false] at h
   split at h
   ·rename_i hk; subst hk; exact binI_run h hφ t w E μ H
   ·simp at h
 ·rename_i m n
  simp only [AR, LR_str] at ha hb
  subst ha hb
  exact ⟨⟨.i64, 0, .i64, 0, .inr ⟨m, n, .inl ⟨rfl, rfl⟩⟩⟩, binS_run h hφ t w E μ H⟩
 ·rename_i m n
  simp only [AR, LR_bool] at ha hb
  subst ha hb
  exact ⟨⟨.i64, 0, .i64, 0, .inr ⟨.empty, .empty, .inr ⟨m, n, rfl, rfl⟩⟩⟩, binB_run hT h hφ w E μ H⟩
 ·simp at h
theorem eqGuard_run {op : BinOp} {t : TypeId} {x y : Operand} {a b : Value} (h : ∃ k n k' n', a = .int k n ∧ b = .int k' n' ∨ ∃ s s', a = .string s ∧ b = .string s' ∨ ∃ p q, a = .bool p ∧ b = .bool q) (w : World) :
  (eqGuard op t x y a b).run P w = .ok () w := by
 obtain ⟨k, n, k', n', ⟨rfl, rfl⟩ | ⟨s, s', ⟨rfl, rfl⟩ | ⟨p, q, rfl, rfl⟩⟩⟩ := h <;> (unfold eqGuard; split <;> rfl)
end
end Go.Proofs.YtfegppjofphpfaaDoor.Vc
namespace Go.Proofs.YtfegppjofphpfaaDoor.Vc
open Go Go.RowKit
set_option linter.unusedVariables false
abbrev InR (n : Int) (k : Nat) : Prop := 0 ≤ n ∧ n < (k : Int)
def one : List Lf → Option AV
 | [a] => some (.lf a)
 | _ => none
def takeAs (ti : TI) (l : List Lf) (j : Nat) : Option AV :=
 let r := (l.drop j).take ti.ty.lv
 cond (Nat.beq r.length ti.ty.lv) (cond ti.ty.isPair (some (.agg r)) (one r)) none
def evLoad (T : Tab) (H : Heap) (t : TypeId) : AV → Option (Prop × AV)
 | .lf (.fp t' x j) => match T t with
  | some ti => (takeAs ti (leafs t' x .fz) j).map fun v => (True, v)
  | none => none
 | .lf (.ptr id ver i j) => match T t with
  | some ti => match H[id]? with
   | some (some (.box l _)) => (takeAs ti l j).map fun v => (True, v)
   | some (some (.arr cur t' xs m)) => cond (Nat.beq ver cur) ((takeAs ti (leafs t' (xs.getD i t'.dflt) m.nest) j).map fun v => (i < xs.length, v)) none
   | _ => none
  | none => none
 | _ => none
def offOf (T : Tab) (s : TypeId) (f : Nat) : Option Nat := match T s with
 | some ti => match ti.ty with
  | .pair _ _ => ti.offs[f]?
  | _ => none
 | none => none
def fresh (H : Heap) (id ver : Nat) : Bool := match H[id]? with
 | some (some (.box _ _)) => true
 | some (some (.arr cur _ _ _)) => Nat.beq ver cur
 | _ => false
def evField (T : Tab) (H : Heap) (s : TypeId) (f : Nat) : AV → Option (Prop × AV)
 | .lf (.fp t x j) => (offOf T s f).map fun o => (True, .lf (.fp t x (j + o)))
 | .lf (.ptr id ver i j) => cond (fresh H id ver) ((offOf T s f).map fun o => (True, .lf (.ptr id ver i (j + o)))) none
 | _ => none
def elemIs (T : Tab) (t : TypeId) (e : Ty) : Bool := match T t with
 | some ti => match ti.ty with
  | .sl e' => decide (e' = e)
  | _ => false
 | none => false
def evIndexAddr (T : Tab) (H : Heap) (t : TypeId) : AV → AV → Option (Prop × AV)
 | .lf (.v (.sl e) xs), .lf (.v (.int _) n) => cond (elemIs T t e) (some (InR n xs.length, .lf (.fp e (xs.getD n.toNat e.dflt) 0))) none
 | .lf (.hd id ver rng), .lf (.v (.int _) n) => match H[id]? with
  | some (some (.arr cur e xs _)) => cond (Nat.beq ver cur && elemIs T t e) (match rng with
   | none => some (InR n xs.length, .lf (.ptr id ver n.toNat 0))
   | some (o, l) => some (InR n l, .lf (.ptr id ver (o + n.toNat) 0))) none
  | _ => none
 | _, _ => none
def evIndex (T : Tab) (t : TypeId) : AV → AV → Option (Prop × AV)
 | .lf (.v .str s), .lf (.v (.int _) n) => match T t with
  | some { ty := .str, .. } => some (InR n s.size, .lf (.v (.int .u8) (s.data.getD n.toNat 0).toNat))
  | _ => none
 | _, _ => none
def evLen (T : Tab) (H : Heap) (t : TypeId) : AV → Option (Prop × AV)
 | .lf (.v .str s) => match T t with
  | some { ty := .str, .. } => some (True, .lf (.v (.int .i64) (s.size : Int)))
  | _ => none
 | .lf (.v (.sl e) xs) => cond (elemIs T t e) (some (True, .lf (.v (.int .i64) (xs.length : Int)))) none
 | .lf .nil => match T t with
  | some { ty := .sl _, .. } => some (True, .lf (.v (.int .i64) 0))
  | _ => none
 | .lf (.hd id ver rng) => match H[id]? with
  | some (some (.arr cur e xs _)) => cond (Nat.beq ver cur && elemIs T t e) (some (True, .lf (.v (.int .i64) (match rng with | none => (xs.length : Int) | some (_, l) => (l : Int))))) none
  | _ => none
 | _ => none
theorem elemIs_under {P : Program} {T : Tab} (hT : TabOk P T) {t : TypeId} {e : Ty} (h : elemIs T t e = true) :
  ∃ ti ej, T t = some ti ∧ ti.ty = .sl e ∧ P.underlying t = some (.slice ti.elem) ∧ T ti.elem = some ej ∧ ej.ty = e := by
 unfold elemIs at h
 split at h
 ·rename_i ti hi
  split at h
  ·rename_i e' he
   have : e' = e := by simpa using h
   subst this
   obtain ⟨h1, ej, h2, h3⟩ := hT.slice hi he
   exact ⟨ti, ej, hi, he, h1, h2, h3⟩
  ·simp at h
 ·simp at h
section
variable {P : Program} {T : Tab} {w : World} {E : Env} {μ : Nat → Value} {H : Heap}
theorem takeAs_run (hT : TabOk P T) {t : TypeId} {ti : TI} (hi : T t = some ti) {l : List Lf} {j : Nat} {v : AV} (h : takeAs ti l j = some v) {b o : Nat}
  (hl : ∀ (k : Nat) a, l[k]? = some a → ∃ y, cellAt w b (o + k) = some y ∧ LR w E μ H a y) :
  ∃ y, (loadVar t ⟨b, o + j, none⟩).run P w = .ok y w ∧ AR w E μ H v y := by
 unfold takeAs at h
 simp only at h
 generalize hr : (l.drop j).take ti.ty.lv = r at h
 cases hb : Nat.beq r.length ti.ty.lv with
 | false => rw [hb] at h; simp at h
 | true =>
  rw [hb] at h
  have hlen : r.length = ti.ty.lv := Nat.eq_of_beq_eq_true hb
  have hk : ∀ (k : Nat) a, r[k]? = some a → ∃ y, cellAt w b (o + j + k) = some y ∧ LR w E μ H a y := by
   intro k a ha
   rw [← hr, List.getElem?_take] at ha
   split at ha
   ·rw [List.getElem?_drop] at ha
    obtain ⟨y, h1, h2⟩ := hl _ _ ha
    exact ⟨y, by rw [Nat.add_assoc]; exact h1, h2⟩
   ·simp at ha
  have hcs : ∃ cs : List Value, cs.length = r.length ∧ (∀ (k : Nat) y, cs[k]? = some y → cellAt w b (o + j + k) = some y) ∧ All2 (LR w E μ H) r cs := by
   clear hr hb hlen h
   generalize o + j = q at hk ⊢
   induction r generalizing q with
   | nil => exact ⟨[], rfl, by simp, .nil⟩
   | cons a r ih =>
    obtain ⟨y, h1, h2⟩ := hk 0 a rfl
    obtain ⟨cs, h3, h4, h5⟩ := ih (q + 1) (fun k a ha => by
     have := hk (k + 1) a (by simpa using ha)
     rw [show q + 1 + k = q + (k + 1) by omega]
     exact this)
    refine ⟨y :: cs, by simp [h3], fun k z hz => ?_, .cons h2 h5⟩
    cases k with
    | zero => simp at hz; subst hz; exact h1
    | succ k =>
     have := h4 k z (by simpa using hz)
     rw [show q + (k + 1) = q + 1 + k by omega]
     exact this
  obtain ⟨cs, h1, h2, h3⟩ := hcs
  refine ⟨_, hT.loadVar hi w b (o + j) cs (by rw [h1, hlen]) h2, ?_⟩
  simp only [cond_true] at h
  cases hp : ti.ty.isPair with
  | true =>
   rw [hp] at h
   simp only [cond_true, Option.some.injEq] at h
   subst h
   exact ⟨cs.toArray, by simp, by simpa using h3⟩
  | false =>
   rw [hp] at h
   simp only [cond_false] at h
   match r, h3, h with
   | [a], .cons (y := y) q1 .nil, h =>
    simp only [one, Option.some.injEq] at h
    subst h
    simpa [AR] using q1
   | [], _, h => simp [one] at h
   | _ :: _ :: _, _, h => simp [one] at h
theorem Rep.cells {r : Root} {t : Ty} {x : t.den} {m : Md} {p : Nat → Pos} {b o : Nat} (h : Rep w E r t x m p (fun k => cellAt w b (o + k))) :
  ∀ (k : Nat) a, (leafs t x m)[k]? = some a → ∃ y, cellAt w b (o + k) = some y ∧ LR w E μ H a y := fun k a ha => leafs_at t x m p _ h k a ha
theorem MR.arr {k : Nat} (hM : MR w E μ H k) {id ver : Nat} {t : Ty} {xs : List t.den} {m : Md} (h : H[id]? = some (some (.arr ver t xs m))) :
    m ≠ .fz ∧ ((xs = [] ∧ ∃ a, μ id = .slice a 0 0) ∨ ∃ b c arr ty, μ id = .slice (some ⟨b, 0, none⟩) xs.length c ∧ xs.length ≤ c ∧ w.heap[b]? = some (.cells arr ty (0, 0)) ∧ arr.size = c * t.lv ∧
            E.κ b = some (.id id, .top) ∧ ∀ i (h : i < xs.length), Rep w E (.id id) t xs[i] m.nest (fun j => .inside b (i * t.lv + j)) (fun j => cellAt w b (i * t.lv + j))) := by
  obtain ⟨hm, v, hv, h1⟩ := hM.blks id _ h
  simp only [at0, if_true, Option.some.injEq] at hv
  subst hv
  rcases h1 with ⟨h1, _⟩ | ⟨_, h1⟩
  · exact absurd h1 hm
  · exact ⟨hm, h1⟩
theorem evLoad_run {k : Nat} (hT : TabOk P T) (hM : MR w E μ H k) {t : TypeId} {x v : AV} {φ : Prop} (h : evLoad T H t x = some (φ, v)) (hφ : φ) {y : Value} (hx : AR w E μ H x y) :
  ∃ z, (Instr.loadAt t y).run P w = .ok z w ∧ AR w E μ H v z := by
 unfold evLoad at h
 split at h
 ·rename_i t' x' j
  split at h
  ·rename_i ti hi
   simp only [Option.map_eq_some_iff, Prod.mk.injEq] at h
   obtain ⟨v', h1, rfl, rfl⟩ := h
   obtain ⟨b, o, rfl, hb, hr⟩ := hx
   obtain ⟨z, h2, h3⟩ := takeAs_run hT hi h1 (b := b) (o := o) (w := w) (E := E) (μ := μ) (H := H) (Rep.cells hr)
   exact ⟨z, by simp only [Instr.loadAt, Instr.sureAddr, Sem.run_bind, Sem.run_pure, Result.andThen_ok]; exact h2, h3⟩
  ·simp at h
 ·rename_i id ver i j
  split at h
  ·rename_i ti hi
   simp only [AR, LR] at hx
   replace hx := hx.2
   split at h
   ·rename_i l tid hH
    rw [hH] at hx
    simp only [Option.map_eq_some_iff, Prod.mk.injEq] at h
    obtain ⟨v', h1, rfl, rfl⟩ := h
    obtain ⟨b, hb, rfl⟩ := hx
    obtain ⟨b', arr, e1, e2, e3, e4⟩ := hM.blks id _ hH
    rw [hb] at e1
    simp only [Value.pointer.injEq, Option.some.injEq, Addr.mk.injEq, and_true] at e1
    subst e1
    obtain ⟨z, h2, h3⟩ := takeAs_run hT hi h1 (b := b) (o := 0) (w := w) (E := E) (μ := μ) (H := H) (fun k a ha => by
     obtain ⟨y, h5, h6⟩ := e4.get k a ha
     refine ⟨y, ?_, h6⟩
     simp only [cellAt, World.cell?, e3, Nat.zero_add]
     simpa using h5)
    rw [Nat.zero_add] at h2
    exact ⟨z, by simp only [Instr.loadAt, Instr.sureAddr, Sem.run_bind, Sem.run_pure, Result.andThen_ok]; exact h2, h3⟩
   ·rename_i cur t' xs m hH
    rw [hH] at hx
    cases hv : Nat.beq ver cur with
    | false => rw [hv] at h; simp at h
    | true =>
     rw [hv] at h
     simp only [cond_true, Option.map_eq_some_iff, Prod.mk.injEq] at h
     obtain ⟨v', h1, rfl, rfl⟩ := h
     obtain ⟨b, n, c, e1, rfl⟩ := hx.2 (Nat.eq_of_beq_eq_true hv)
     obtain ⟨hm, h2⟩ := hM.arr hH
     rcases h2 with ⟨h2, _⟩ | ⟨b', c', arr, ty, f1, f2, f3, f4, f5, f6⟩
     ·subst h2; simp at hφ
     ·rw [e1] at f1
      simp only [Value.slice.injEq, Option.some.injEq, Addr.mk.injEq, and_true] at f1
      obtain ⟨rfl, _, _⟩ := f1
      have hr := f6 i hφ
      have hg : xs.getD i t'.dflt = xs[i] := by simp [List.getD, hφ]
      rw [hg] at h1
      obtain ⟨z, h2, h3⟩ := takeAs_run hT hi h1 (b := b) (o := i * t'.lv) (w := w) (E := E) (μ := μ) (H := H) (Rep.cells hr)
      exact ⟨z, by simp only [Instr.loadAt, Instr.sureAddr, Sem.run_bind, Sem.run_pure, Result.andThen_ok]; exact h2, h3⟩
   ·simp at h
  ·simp at h
 ·simp at h
theorem evField_run (hT : TabOk P T) {t : TypeId} {f : Nat} {x v : AV} {φ : Prop} (h : evField T H t f x = some (φ, v)) {y : Value} (hx : AR w E μ H x y) :
  ∃ z, (Instr.fieldAt t y f).run P w = .ok z w ∧ AR w E μ H v z := by
 have key : ∀ (o : Nat) (b q : Nat), offOf T t f = some o → (Instr.fieldAt t (.pointer (some ⟨b, q, none⟩)) f).run P w = .ok (.pointer (some ⟨b, q + o, none⟩)) w := by
  intro o b q ho
  unfold offOf at ho
  split at ho
  ·rename_i ti hi
   split at ho
   ·rename_i a c hty
    have hu := (hT t ti hi).under
    rw [hty] at hu
    obtain ⟨fs, h1, h2, _⟩ := hu
    obtain ⟨fl, info', h3, h4, h5, h6⟩ := h2 f o ho
    simp only [Instr.fieldAt, Sem.run_bind, run_underlying h1, Result.andThen_ok, h3, Instr.sureAddr, Sem.run_pure, fieldPlace, run_sizeOf' h5, if_neg h6, h4, add_at]
   ·simp at ho
  ·simp at ho
 unfold evField at h
 split at h
 ·simp only [Option.map_eq_some_iff, Prod.mk.injEq] at h
  obtain ⟨o, ho, rfl, rfl⟩ := h
  obtain ⟨b, q, rfl, h1, h2⟩ := hx
  exact ⟨_, key o b _ ho, b, q, by rw [Nat.add_assoc], h1, h2⟩
 ·rename_i id ver i j
  cases hf : fresh H id ver with
  | false => rw [hf] at h; simp at h
  | true =>
   rw [hf] at h
   simp only [cond_true, Option.map_eq_some_iff, Prod.mk.injEq] at h
   obtain ⟨o, ho, rfl, rfl⟩ := h
   unfold fresh at hf
   simp only [AR, LR] at hx ⊢
   replace hx := hx.2
   split at hf
   ·rename_i l tid hH
    rw [hH] at hx ⊢
    obtain ⟨b, h1, rfl⟩ := hx
    exact ⟨_, key o b _ ho, rfl, b, h1, rfl⟩
   ·rename_i cur t' xs m hH
    rw [hH] at hx ⊢
    obtain ⟨b, n, c, h1, rfl⟩ := hx.2 (Nat.eq_of_beq_eq_true hf)
    exact ⟨_, key o b _ ho, rfl, hx.1, fun _ => ⟨b, n, c, h1, by rw [Nat.add_assoc]⟩⟩
   ·simp at hf
 ·simp at h
theorem evIndexAddr_run {k : Nat} (hT : TabOk P T) (hM : MR w E μ H k) {t : TypeId} {x i v : AV} {φ : Prop} (h : evIndexAddr T H t x i = some (φ, v)) (hφ : φ) {y q : Value} (hx : AR w E μ H x y) (hi : AR w E μ H i q) :
  ∃ z, (Instr.indexAt t y q).run P w = .ok z w ∧ AR w E μ H v z := by
 have key : ∀ {ti ej : TI} {b o len cap : Nat} {kk : IntKind} (n : Int), P.underlying t = some (.slice ti.elem) → T ti.elem = some ej → 0 ≤ n → n < (len : Int) →
   (Instr.indexAt t (.slice (some ⟨b, o, none⟩) len cap) (.int kk n)).run P w = .ok (.pointer (some ⟨b, o + n.toNat * ej.ty.lv, none⟩)) w := by
  intro ti ej b o len cap kk n hu he h0 h1
  have htiny : (match (TypeDesc.slice ti.elem : TypeDesc) with | .array .. => true | _ => false) = false := rfl
  simp [Instr.indexAt, asIntOf, run_underlying hu, h0, h1, hT.size he, add_at]
 unfold evIndexAddr at h
 split at h
 ·rename_i e xs kk n
  simp only [AR, LR_int] at hi
  subst hi
  cases he : elemIs T t e with
  | false => rw [he] at h; simp at h
  | true =>
   rw [he] at h
   simp only [cond_true, Option.some.injEq, Prod.mk.injEq] at h
   obtain ⟨rfl, rfl⟩ := h
   obtain ⟨ti, ej, h1, h2, h3, h4, h5⟩ := elemIs_under hT he
   obtain ⟨v', hv', hr⟩ := hx
   simp only [at0, if_true, Option.some.injEq] at hv'
   subst hv'
   rcases hr with ⟨_, hr⟩ | ⟨hr, _⟩
   ·rcases hr with ⟨rfl, _⟩ | ⟨b, o, c, rfl, f1, f2, f3⟩
    ·exact absurd hφ (by rintro ⟨h0, h1⟩; simp at h1; omega)
    ·refine ⟨_, key n h3 h4 hφ.1 hφ.2, b, o + n.toNat * ej.ty.lv, by simp, f2, ?_⟩
     have hlt : Int.toNat n < xs.length := by have h0 : (0 : Int) ≤ n := hφ.1; have h1 : (n : Int) < (xs.length : Int) := hφ.2; omega
     have := f3 n.toNat hlt
     rw [show xs.getD n.toNat e.dflt = xs[n.toNat] by simp [List.getD, hlt], h5]
     exact Rep.fz (fun b hb => ⟨hb, rfl⟩) e _ (fun _ _ _ h => h) this
   ·exact absurd rfl hr
 ·rename_i id ver rng kk n
  simp only [AR, LR_int] at hi
  subst hi
  split at h
  ·rename_i cur e xs m hH
   cases hc : (Nat.beq ver cur && elemIs T t e) with
   | false => rw [hc] at h; simp at h
   | true =>
    rw [hc] at h
    simp only [Bool.and_eq_true] at hc
    obtain ⟨hv, he⟩ := hc
    obtain ⟨ti, ej, h1, h2, h3, h4, h5⟩ := elemIs_under hT he
    simp only [AR, LR, hH] at hx
    replace hx := hx.2
    have hx' := hx.2 (Nat.eq_of_beq_eq_true hv)
    obtain ⟨hm, ha⟩ := hM.arr hH
    cases rng with
    | none =>
     simp only [cond_true, Option.some.injEq, Prod.mk.injEq] at h
     obtain ⟨rfl, rfl⟩ := h
     simp only [HdR] at hx'
     subst hx'
     rcases ha with ⟨rfl, _⟩ | ⟨b, c, arr, ty, g1, g2, g3, g4, g5, g6⟩
     ·exact absurd hφ (by rintro ⟨h0, h1⟩; simp at h1; omega)
     ·rw [g1]
      refine ⟨_, key n h3 h4 hφ.1 hφ.2, ?_⟩
      simp only [AR, LR, hH]
      exact ⟨rfl, hx.1, fun _ => ⟨b, _, _, g1, by rw [h5]; simp⟩⟩
    | some ol =>
     obtain ⟨o, l⟩ := ol
     simp only [cond_true, Option.some.injEq, Prod.mk.injEq] at h
     obtain ⟨rfl, rfl⟩ := h
     replace hx' := HdR.old hx'
     rcases hx' with ⟨rfl, _⟩ | ⟨b, c, c', g1, rfl, g3, g4⟩
     ·exact absurd hφ (by rintro ⟨h0, h1⟩; simp at h1; omega)
     ·refine ⟨_, key n h3 h4 hφ.1 hφ.2, ?_⟩
      simp only [AR, LR, hH]
      exact ⟨rfl, hx.1, fun _ => ⟨b, _, _, g1, by rw [h5]; simp [Nat.add_mul]⟩⟩
  ·simp at h
 ·simp at h
theorem evIndex_run (hT : TabOk P T) {t : TypeId} {x i v : AV} {φ : Prop} (h : evIndex T t x i = some (φ, v)) (hφ : φ) {y q : Value} (hx : AR w E μ H x y) (hi : AR w E μ H i q) :
  ∃ z, (Instr.index t y q).run P w = .ok z w ∧ AR w E μ H v z := by
 unfold evIndex at h
 split at h
 ·rename_i s kk n
  split at h
  ·rename_i e o hti
   simp only [Option.some.injEq, Prod.mk.injEq] at h
   obtain ⟨rfl, rfl⟩ := h
   have hu := (hT t _ hti).under
   simp only at hu
   simp only [AR, LR_int] at hi
   simp only [AR, LR_str] at hx
   subst hi hx
   have h0 : (0 : Int) ≤ n := hφ.1
   have h1 : (n : Int) < (s.size : Int) := hφ.2
   have hlt : Int.toNat n < s.size := by omega
   refine ⟨.int .u8 (s.data.getD n.toNat 0).toNat, ?_, AR_int _ _⟩
   have hs : s[n.toNat]? = some (s.data.getD n.toNat 0) := by
    rw [getElem?_pos s n.toNat hlt]
    have : n.toNat < s.data.size := hlt
    simp only [Array.getD, Option.some.injEq]
    rw [dif_pos this]
    rfl
   simp only [Instr.index, asIntOf, Sem.run_bind, Sem.run_pure, Result.andThen_ok, run_underlying hu, if_pos h0, hs]
  ·simp at h
 ·simp at h
theorem evLen_run {k : Nat} (hT : TabOk P T) (hM : MR w E μ H k) {t : TypeId} {x v : AV} {φ : Prop} (h : evLen T H t x = some (φ, v)) {y : Value} (hx : AR w E μ H x y) (ts : Array TypeId) (ht : ts[0]? = some t) (rt : TypeId) :
  ∃ z, (Builtin.len_ ts rt #[y]).run P w = .ok z w ∧ AR w E μ H v z := by
 unfold evLen at h
 split at h
 ·rename_i s
  split at h
  ·rename_i e o hti
   simp only [Option.some.injEq, Prod.mk.injEq] at h
   obtain ⟨rfl, rfl⟩ := h
   have hu := (hT t _ hti).under
   simp only at hu
   simp only [AR, LR_str] at hx
   subst hx
   exact ⟨.int .i64 s.size, by simp [Builtin.len_, ht, run_underlying hu, goInt], AR_int _ _⟩
  ·simp at h
 ·rename_i e xs
  cases he : elemIs T t e with
  | false => rw [he] at h; simp at h
  | true =>
   rw [he] at h
   simp only [cond_true, Option.some.injEq, Prod.mk.injEq] at h
   obtain ⟨rfl, rfl⟩ := h
   obtain ⟨ti, ej, h1, h2, h3, h4, h5⟩ := elemIs_under hT he
   obtain ⟨v', hv', hr⟩ := hx
   simp only [at0, if_true, Option.some.injEq] at hv'
   subst hv'
   have : ∃ a c, y = .slice a xs.length c := by
    rcases hr with ⟨_, hr⟩ | ⟨hr, _⟩
    ·rcases hr with ⟨rfl, a, c, rfl⟩ | ⟨b, o, c, rfl, _⟩
     ·exact ⟨a, c, rfl⟩
     ·exact ⟨_, c, rfl⟩
    ·exact absurd rfl hr
   obtain ⟨a, c, rfl⟩ := this
   exact ⟨.int .i64 xs.length, by simp [Builtin.len_, ht, run_underlying h3, goInt], AR_int _ _⟩
 ·split at h
  ·rename_i e o1 o2 hti
   simp only [Option.some.injEq, Prod.mk.injEq] at h
   obtain ⟨rfl, rfl⟩ := h
   have hu := ((hT t _ hti).under).1
   obtain ⟨a, rfl⟩ := hx
   exact ⟨.int .i64 0, by simp [Builtin.len_, ht, run_underlying hu, goInt], AR_int _ _⟩
  ·simp at h
 ·rename_i id ver rng
  split at h
  ·rename_i cur e xs m hH
   cases hc : (Nat.beq ver cur && elemIs T t e) with
   | false => rw [hc] at h; simp at h
   | true =>
    rw [hc] at h
    simp only [Bool.and_eq_true] at hc
    obtain ⟨hv, he⟩ := hc
    obtain ⟨ti, ej, h1, h2, h3, h4, h5⟩ := elemIs_under hT he
    simp only [AR, LR, hH] at hx
    replace hx := hx.2
    have hx' := hx.2 (Nat.eq_of_beq_eq_true hv)
    obtain ⟨hm, ha⟩ := hM.arr hH
    simp only [cond_true, Option.some.injEq, Prod.mk.injEq] at h
    obtain ⟨rfl, rfl⟩ := h
    cases rng with
    | none =>
     simp only [HdR] at hx'
     subst hx'
     have : ∃ a c, μ id = .slice a xs.length c := by
      rcases ha with ⟨rfl, a, ha⟩ | ⟨b, c, arr, ty, g1, _⟩
      ·exact ⟨a, 0, ha⟩
      ·exact ⟨_, c, g1⟩
     obtain ⟨a, c, hq⟩ := this
     rw [hq]
     exact ⟨.int .i64 xs.length, by simp [Builtin.len_, ht, run_underlying h3, goInt], AR_int _ _⟩
    | some ol =>
     obtain ⟨o, l⟩ := ol
     replace hx' := HdR.old hx'
     have : ∃ a c, y = .slice a l c := by
      rcases hx' with ⟨rfl, a, c, rfl⟩ | ⟨b, c, c', g1, rfl, g3, g4⟩
      ·exact ⟨a, c, rfl⟩
      ·exact ⟨_, c', rfl⟩
     obtain ⟨a, c, rfl⟩ := this
     exact ⟨.int .i64 l, by simp [Builtin.len_, ht, run_underlying h3, goInt], AR_int _ _⟩
  ·simp at h
 ·simp at h
end
end Go.Proofs.YtfegppjofphpfaaDoor.Vc
namespace Go.Proofs.YtfegppjofphpfaaDoor.Vc
open Go Go.RowKit
set_option linter.unusedVariables false
def bd : Option AV → Option (Option Int)
 | none => some none
 | some (.lf (.v (.int _) n)) => some (some n)
 | _ => none
def evCut (T : Tab) (H : Heap) (t : TypeId) : AV → Option Int → Option Int → Option (Prop × AV)
 | .lf (.v (.sl e) xs), lo, hi => cond (elemIs T t e) (match lo, hi with
  | none, none => some (True, .lf (.v (.sl e) xs))
  | none, some h => some (0 ≤ h ∧ h ≤ (xs.length : Int), .lf (.v (.sl e) (xs.take h.toNat)))
  | some l, none => some (0 ≤ l ∧ l ≤ (xs.length : Int), .lf (.v (.sl e) (xs.drop l.toNat)))
  | some l, some h => some (0 ≤ l ∧ l ≤ h ∧ h ≤ (xs.length : Int), .lf (.v (.sl e) ((xs.take h.toNat).drop l.toNat)))) none
 | .lf (.hd id ver none), lo, hi => match H[id]? with
  | some (some (.arr cur e xs _)) => cond (Nat.beq ver cur && elemIs T t e) (match lo, hi with
   | none, none => some (True, .lf (.hd id ver none))
   | none, some h => some (0 ≤ h ∧ h ≤ (xs.length : Int), .lf (.hd id ver (some (0, h.toNat))))
   | some l, none => some (0 ≤ l ∧ l ≤ (xs.length : Int), .lf (.hd id ver (some (l.toNat, xs.length - l.toNat))))
   | some l, some h => some (0 ≤ l ∧ l ≤ h ∧ h ≤ (xs.length : Int), .lf (.hd id ver (some (l.toNat, h.toNat - l.toNat))))) none
  | _ => none
 | .lf (.hd id ver (some (o, n))), lo, hi => match H[id]? with
  | some (some (.arr cur e xs _)) => cond (Nat.beq ver cur && elemIs T t e) (match lo, hi with
   | none, none => none
   | none, some h => some (0 ≤ h ∧ h ≤ (xs.length : Int) - (o : Int), .lf (.hd id ver (some (o, h.toNat))))
   | some l, none => some (0 ≤ l ∧ l ≤ (n : Int), .lf (.hd id ver (some (o + l.toNat, n - l.toNat))))
   | some l, some h => some (0 ≤ l ∧ l ≤ h ∧ h ≤ (xs.length : Int) - (o : Int), .lf (.hd id ver (some (o + l.toNat, h.toNat - l.toNat))))) none
  | _ => none
 | .lf (.v .str s), lo, hi => match T t with
  | some { ty := .str, .. } => match lo, hi with
   | none, none => none
   | none, some h => some (0 ≤ h ∧ h ≤ (s.size : Int), .lf (.v .str (s.extract 0 h.toNat)))
   | some l, none => some (0 ≤ l ∧ l ≤ (s.size : Int), .lf (.v .str (s.extract l.toNat s.size)))
   | some l, some h => some (0 ≤ l ∧ l ≤ h ∧ h ≤ (s.size : Int), .lf (.v .str (s.extract l.toNat h.toNat)))
  | _ => none
 | _, _, _ => none
def isSlice : AV → Bool
 | .lf (.v (.sl _) _) => true
 | .lf .nil => true
 | _ => false
def evSlice (T : Tab) (H : Heap) (t : TypeId) (x : AV) (lo hi mx : Option Int) : Option (Prop × AV) :=
 match mx with
 | none => evCut T H t x lo hi
 | some m => match T t with
  | some { ty := .sl _, .. } => cond (isSlice x) (some (lo = none ∧ hi = some 0 ∧ m = 0, .lf .nil)) (match x with
   | .lf (.hd id ver none) => match H[id]? with
    | some (some (.arr cur e xs _)) => cond (Nat.beq ver cur && elemIs T t e) (match lo, hi with
     | some l, some h => some (0 ≤ l ∧ l ≤ h ∧ h ≤ m ∧ m ≤ (xs.length : Int), .lf .any)
     | _, _ => none) none
    | _ => none
   | _ => none)
  | _ => none
section
variable {P : Program} {T : Tab} {w : World} {E : Env} {μ : Nat → Value} {H : Heap}
theorem bd_run {x : Option AV} {o : Option Int} (h : bd x = some o) {y : Option Value} (hxy : (x = none ∧ y = none) ∨ ∃ a b, x = some a ∧ y = some b ∧ AR w E μ H a b) :
  (o = none ∧ y = none) ∨ ∃ n k, o = some n ∧ y = some (.int k n) := by
 rcases hxy with ⟨rfl, rfl⟩ | ⟨a, b, rfl, rfl, hab⟩
 ·simp [bd] at h; exact .inl ⟨h.symm, rfl⟩
 ·unfold bd at h
  split at h
  ·rename_i h1; simp at h1
  ·rename_i k n h1
   simp only [Option.some.injEq] at h1
   subst h1
   simp only [AR, LR_int] at hab
   simp only [Option.some.injEq] at h
   exact .inr ⟨n, k, h.symm, by rw [hab]⟩
  ·simp at h
theorem bound_run {k : IntKind} {x : Int} {y : Nat} (c : BoundsCode) (h0 : 0 ≤ x) (h1 : x ≤ (y : Int)) (w : World) : (Instr.sliceBound (.int k x) y c).run P w = .ok x.toNat w := by
 simp [Instr.sliceBound, asIntOf, h0, h1]
theorem bounds_run (s : Bool) {len cap : Nat} {lo hi : Option Value} {l h : Nat} (hlc : len ≤ cap) (hl : (lo = none ∧ l = 0) ∨ ∃ k n, lo = some (.int k n) ∧ 0 ≤ n ∧ n.toNat = l)
  (hh : (hi = none ∧ h = len) ∨ ∃ k n, hi = some (.int k n) ∧ 0 ≤ n ∧ n.toNat = h) (h1 : l ≤ h) (h2 : h ≤ cap) (w : World) :
  (Instr.sliceBounds s len cap lo hi none).run P w = .ok (l, h, cap) w := by
 unfold Instr.sliceBounds
 rcases hh with ⟨rfl, rfl⟩ | ⟨k, n, rfl, hn0, rfl⟩
 ·rcases hl with ⟨rfl, rfl⟩ | ⟨k, n, rfl, hn0, rfl⟩
  ·simp
  ·simp [bound_run (k := k) _ hn0 (show n ≤ (h : Int) by omega) w]
 ·rcases hl with ⟨rfl, rfl⟩ | ⟨k', n', rfl, hn0', rfl⟩
  ·simp [bound_run (k := k) _ hn0 (show n ≤ (cap : Int) by omega) w]
  ·simp [bound_run (k := k) _ hn0 (show n ≤ (cap : Int) by omega) w, bound_run (k := k') _ hn0' (show n' ≤ (n.toNat : Int) by omega) w]
theorem slice_run {t : TypeId} {ti ej : TI} (hT : TabOk P T) (hu : P.underlying t = some (.slice ti.elem)) (he : T ti.elem = some ej) {a : Option Addr} {len cap : Nat} {lo hi : Option Value} {l h : Nat} (hlc : len ≤ cap)
  (hl : (lo = none ∧ l = 0) ∨ ∃ k n, lo = some (.int k n) ∧ 0 ≤ n ∧ n.toNat = l)
  (hh : (hi = none ∧ h = len) ∨ ∃ k n, hi = some (.int k n) ∧ 0 ≤ n ∧ n.toNat = h) (h1 : l ≤ h) (h2 : h ≤ cap) (w : World) :
  (Instr.sliceAt t (.slice a len cap) lo hi none).run P w = .ok (.slice (if cap = l then a else a.map (·.add (l * ej.ty.lv))) (h - l) (cap - l)) w := by
 simp only [Instr.sliceAt, Sem.run_bind, run_underlying hu, Result.andThen_ok, Instr.slice, bounds_run true hlc hl hh h1 h2 w, hT.size he, Sem.run_pure]
theorem rep_cut {r r' : Root} {e : Ty} {xs : List e.den} {p : Nat → Pos} {y : Value} (h : Rep w E r (.sl e) xs .fz p (at0 y)) {l k : Nat} (h1 : l ≤ k) (h2 : k ≤ xs.length) :
  ∃ a c, y = .slice a xs.length c ∧ xs.length ≤ c ∧ (xs = [] ∨ 0 < xs.length) ∧ Rep w E r' (.sl e) ((xs.take k).drop l) .fz p (at0 (.slice (if c = l then a else a.map (·.add (l * e.lv))) (k - l) (c - l))) := by
 obtain ⟨v, hv, h⟩ := h
 simp only [at0, if_true, Option.some.injEq] at hv
 subst hv
 have hlen : ((xs.take k).drop l).length = k - l := by simp; omega
 rcases h with ⟨_, h⟩ | ⟨h, _⟩
 ·rcases h with ⟨rfl, a, c, rfl⟩ | ⟨b, o, c, rfl, g1, g2, g3⟩
  ·simp at h2
   subst h2
   have : l = 0 := by omega
   subst this
   exact ⟨a, c, rfl, by simp, .inl rfl, _, rfl, .inl ⟨rfl, .inl ⟨by simp, _, _, rfl⟩⟩⟩
  ·refine ⟨_, c, rfl, g1, by rcases xs with _ | _ <;> simp, _, rfl, .inl ⟨rfl, ?_⟩⟩
   by_cases hc : c = l
   ·refine .inl ⟨List.length_eq_zero_iff.1 (by omega), some ⟨b, o, none⟩, c - l, ?_⟩
    rw [if_pos hc, show k - l = 0 by omega]
   ·refine .inr ⟨b, o + l * e.lv, c - l, ?_, by omega, g2, fun i hi => ?_⟩
    ·rw [if_neg hc, hlen, Option.map_some, add_at]
    ·have hi' : l + i < xs.length := by omega
     have := g3 (l + i) hi'
     have hx : ((xs.take k).drop l)[i] = xs[l + i] := by simp
     rw [hx]
     refine Rep.fz (fun b hb => ⟨hb, rfl⟩) e _ (fun j v _ hv => ?_) this
     rw [← hv]
     congr 1
     rw [Nat.add_mul]; omega
 ·exact absurd rfl h
theorem evCut_run {k : Nat} (hT : TabOk P T) (hM : MR w E μ H k) {t : TypeId} {x v : AV} {lo hi : Option Int} {φ : Prop} (h : evCut T H t x lo hi = some (φ, v)) (hφ : φ) {y : Value} (hx : AR w E μ H x y) {lo' hi' : Option Value}
  (hlo : (lo = none ∧ lo' = none) ∨ ∃ n k, lo = some n ∧ lo' = some (.int k n)) (hhi : (hi = none ∧ hi' = none) ∨ ∃ n k, hi = some n ∧ hi' = some (.int k n)) :
  ∃ z, (Instr.sliceAt t y lo' hi' none).run P w = .ok z w ∧ AR w E μ H v z := by
 unfold evCut at h
 split at h
 ·rename_i e xs
  cases he : elemIs T t e with
  | false => rw [he] at h; simp at h
  | true =>
   rw [he] at h
   simp only [cond_true] at h
   obtain ⟨ti, ej, f1, f2, f3, f4, f5⟩ := elemIs_under hT he
   have key : ∀ (l k : Nat) , l ≤ k → k ≤ xs.length → ((lo' = none ∧ l = 0) ∨ ∃ k n, lo' = some (.int k n) ∧ 0 ≤ n ∧ n.toNat = l) → ((hi' = none ∧ k = xs.length) ∨ ∃ q n, hi' = some (.int q n) ∧ 0 ≤ n ∧ n.toNat = k) →
     ∃ z, (Instr.sliceAt t y lo' hi' none).run P w = .ok z w ∧ AR w E μ H (.lf (.v (.sl e) ((xs.take k).drop l))) z := by
    intro l k h1 h2 h3 h4
    have hx' : Rep w E (.res 0) (.sl e) xs .fz (fun _ => .top) (at0 y) := hx
    obtain ⟨a, c, rfl, g1, _, g2⟩ := rep_cut (r' := .res 0) hx' h1 h2
    refine ⟨_, slice_run hT f3 f4 g1 h3 h4 h1 (by omega) w, ?_⟩
    rw [f5]
    exact g2
   rcases hlo with ⟨rfl, rfl⟩ | ⟨n, q, rfl, rfl⟩ <;> rcases hhi with ⟨rfl, rfl⟩ | ⟨n', q', rfl, rfl⟩ <;> simp only [Option.some.injEq, Prod.mk.injEq] at h <;> obtain ⟨rfl, rfl⟩ := h
   ·have := key 0 xs.length (by omega) (by omega) (.inl ⟨rfl, rfl⟩) (.inl ⟨rfl, rfl⟩)
    simpa using this
   ·have := key 0 n'.toNat (by omega) (by omega) (.inl ⟨rfl, rfl⟩) (.inr ⟨q', n', rfl, hφ.1, rfl⟩)
    simpa using this
   ·have := key n.toNat xs.length (by omega) (by omega) (.inr ⟨q, n, rfl, hφ.1, rfl⟩) (.inl ⟨rfl, rfl⟩)
    simpa using this
   ·exact key n.toNat n'.toNat (by omega) (by omega) (.inr ⟨q, n, rfl, hφ.1, rfl⟩) (.inr ⟨q', n', rfl, by omega, rfl⟩)
 ·rename_i id ver
  split at h
  ·rename_i cur e xs m hH
   cases hc : (Nat.beq ver cur && elemIs T t e) with
   | false => rw [hc] at h; simp at h
   | true =>
    rw [hc] at h
    simp only [cond_true] at h
    simp only [Bool.and_eq_true] at hc
    obtain ⟨hv, he⟩ := hc
    obtain ⟨ti, ej, f1, f2, f3, f4, f5⟩ := elemIs_under hT he
    simp only [AR, LR, hH] at hx
    replace hx := hx.2
    have hx' := hx.2 (Nat.eq_of_beq_eq_true hv)
    simp only [HdR] at hx'
    obtain ⟨hm, ha⟩ := hM.arr hH
    have hsh : ∃ a c, μ id = .slice a xs.length c ∧ xs.length ≤ c ∧ (xs = [] ∨ ∃ b, a = some ⟨b, 0, none⟩) := by
     rcases ha with ⟨rfl, a, ha⟩ | ⟨b, c, arr, ty, g1, g2, _⟩
     ·exact ⟨a, 0, ha, by simp, .inl rfl⟩
     ·exact ⟨_, c, g1, g2, .inr ⟨b, rfl⟩⟩
    obtain ⟨a, c, g1, g2, g3⟩ := hsh
    have key : ∀ (l k : Nat) , l ≤ k → k ≤ xs.length → ((lo' = none ∧ l = 0) ∨ ∃ k n, lo' = some (.int k n) ∧ 0 ≤ n ∧ n.toNat = l) → ((hi' = none ∧ k = xs.length) ∨ ∃ q n, hi' = some (.int q n) ∧ 0 ≤ n ∧ n.toNat = k) →
      ∃ z, (Instr.sliceAt t y lo' hi' none).run P w = .ok z w ∧ AR w E μ H (.lf (.hd id ver (some (l, k - l)))) z := by
     intro l k h1 h2 h3 h4
     subst hx'
     rw [g1]
     refine ⟨_, slice_run hT f3 f4 g2 h3 h4 h1 (by omega) w, ?_⟩
     simp only [AR, LR, hH, HdR]
     refine ⟨rfl, hx.1, fun _ => ?_⟩
     refine ⟨a, c, g1, g2, by omega, ?_, _, by rw [f5], fun hcl => if_neg hcl, fun hl => ?_⟩
     rotate_left
     ·subst hl
      split
      ·rfl
      ·cases a with
       | none => rfl
       | some a => simp [Addr.add]
     rcases g3 with rfl | ⟨b, rfl⟩
     ·exact .inl rfl
     ·exact .inr ⟨b, rfl⟩
    rcases hlo with ⟨rfl, rfl⟩ | ⟨n, q, rfl, rfl⟩ <;> rcases hhi with ⟨rfl, rfl⟩ | ⟨n', q', rfl, rfl⟩ <;> simp only [Option.some.injEq, Prod.mk.injEq] at h <;> obtain ⟨rfl, rfl⟩ := h
    ·subst hx'
     rw [g1]
     refine ⟨_, slice_run hT f3 f4 g2 (.inl ⟨rfl, rfl⟩) (.inl ⟨rfl, rfl⟩) (by omega) g2 w, ?_⟩
     simp only [AR, LR, hH, HdR]
     refine ⟨rfl, hx.1, fun _ => ?_⟩
     rw [g1]
     congr 1
     split
     ·rfl
     ·cases a with
      | none => rfl
      | some a => simp [Addr.add]
    ·have := key 0 n'.toNat (by omega) (by omega) (.inl ⟨rfl, rfl⟩) (.inr ⟨q', n', rfl, hφ.1, rfl⟩)
     simpa using this
    ·exact key n.toNat xs.length (by omega) (by omega) (.inr ⟨q, n, rfl, hφ.1, rfl⟩) (.inl ⟨rfl, rfl⟩)
    ·exact key n.toNat n'.toNat (by omega) (by omega) (.inr ⟨q, n, rfl, hφ.1, rfl⟩) (.inr ⟨q', n', rfl, by omega, rfl⟩)
  ·simp at h
 ·rename_i id ver o nn
  split at h
  ·rename_i cur e xs m hH
   cases hc : (Nat.beq ver cur && elemIs T t e) with
   | false => rw [hc] at h; simp at h
   | true =>
    rw [hc] at h
    simp only [cond_true] at h
    simp only [Bool.and_eq_true] at hc
    obtain ⟨hv, he⟩ := hc
    obtain ⟨ti, ej, f1, f2, f3, f4, f5⟩ := elemIs_under hT he
    simp only [AR, LR, hH] at hx
    replace hx := hx.2
    obtain ⟨a, c, g1, g2, g3, g4, a', rfl, g5, g6⟩ := hx.2 (Nat.eq_of_beq_eq_true hv)
    have key : ∀ (l k : Nat) , l ≤ k → o + k ≤ xs.length → ((lo' = none ∧ l = 0) ∨ ∃ k n, lo' = some (.int k n) ∧ 0 ≤ n ∧ n.toNat = l) → ((hi' = none ∧ k = nn) ∨ ∃ q n, hi' = some (.int q n) ∧ 0 ≤ n ∧ n.toNat = k) →
      ∃ z, (Instr.sliceAt t (.slice a' nn (c - o)) lo' hi' none).run P w = .ok z w ∧ AR w E μ H (.lf (.hd id ver (some (o + l, k - l)))) z := by
     intro l k h1 h2 h3 h4
     refine ⟨_, slice_run hT f3 f4 (by omega) h3 h4 h1 (by omega) w, ?_⟩
     simp only [AR, LR, hH, HdR]
     refine ⟨rfl, hx.1, fun _ => ⟨a, c, g1, g2, by omega, g4, _, by rw [Nat.sub_sub], fun hcl => ?_, fun hl => ?_⟩⟩
     ·rw [if_neg (by omega), g5 (by omega), f5]
      rcases g4 with h0 | ⟨b, rfl⟩
      ·have e1 : o = 0 := by omega
       have e2 : l = 0 := by omega
       subst e1 e2
       cases a <;> simp [Addr.add]
      ·simp only [Option.map_some, add_at, Nat.zero_add]
       congr 2
       rw [Nat.add_mul]
     ·have ho : o = 0 := by omega
      have hl0 : l = 0 := by omega
      subst hl0
      rw [g6 ho]
      split
      ·rfl
      ·cases a with
       | none => rfl
       | some a => simp [Addr.add]
    rcases hlo with ⟨rfl, rfl⟩ | ⟨n, q, rfl, rfl⟩ <;> rcases hhi with ⟨rfl, rfl⟩ | ⟨n', q', rfl, rfl⟩ <;> simp only [Option.some.injEq, Prod.mk.injEq, reduceCtorEq] at h <;> obtain ⟨rfl, rfl⟩ := h
    ·have := key 0 n'.toNat (by omega) (by omega) (.inl ⟨rfl, rfl⟩) (.inr ⟨q', n', rfl, hφ.1, rfl⟩)
     simpa using this
    ·exact key n.toNat nn (by omega) (by omega) (.inr ⟨q, n, rfl, hφ.1, rfl⟩) (.inl ⟨rfl, rfl⟩)
    ·exact key n.toNat n'.toNat (by omega) (by omega) (.inr ⟨q, n, rfl, hφ.1, rfl⟩) (.inr ⟨q', n', rfl, by omega, rfl⟩)
  ·simp at h
 ·rename_i s
  split at h
  ·rename_i e o hti
   have hu := (hT t _ hti).under
   simp only at hu
   simp only [AR, LR_str] at hx
   subst hx
   have key : ∀ (l k : Nat), l ≤ k → k ≤ ByteArray.size s → ((lo' = none ∧ l = 0) ∨ ∃ k n, lo' = some (.int k n) ∧ 0 ≤ n ∧ n.toNat = l) → ((hi' = none ∧ k = ByteArray.size s) ∨ ∃ q n, hi' = some (.int q n) ∧ 0 ≤ n ∧ n.toNat = k) →
     ∃ z, (Instr.sliceAt t (.string s) lo' hi' none).run P w = .ok z w ∧ AR w E μ H (.lf (.v .str (ByteArray.extract s l k))) z := by
    intro l k h1 h2 h3 h4
    refine ⟨.string (ByteArray.extract s l k), ?_, AR_str _⟩
    simp only [Instr.sliceAt, Sem.run_bind, run_underlying hu, Result.andThen_ok, Instr.slice, Option.isSome_none, Bool.false_eq_true, if_false, Sem.run_pure, bounds_run false (Nat.le_refl _) h3 h4 h1 h2 w]
   rcases hlo with ⟨rfl, rfl⟩ | ⟨n, q, rfl, rfl⟩ <;> rcases hhi with ⟨rfl, rfl⟩ | ⟨n', q', rfl, rfl⟩ <;> simp only [Option.some.injEq, Prod.mk.injEq, reduceCtorEq] at h <;> obtain ⟨rfl, rfl⟩ := h
   ·exact key 0 n'.toNat (by omega) (by omega) (.inl ⟨rfl, rfl⟩) (.inr ⟨q', n', rfl, hφ.1, rfl⟩)
   ·exact key n.toNat (ByteArray.size s) (by omega) (by omega) (.inr ⟨q, n, rfl, hφ.1, rfl⟩) (.inl ⟨rfl, rfl⟩)
   ·exact key n.toNat n'.toNat (by omega) (by omega) (.inr ⟨q, n, rfl, hφ.1, rfl⟩) (.inr ⟨q', n', rfl, by omega, rfl⟩)
  ·simp at h
 ·simp at h
end
end Go.Proofs.YtfegppjofphpfaaDoor.Vc
namespace Go.Proofs.YtfegppjofphpfaaDoor.Vc
open Go Go.RowKit
set_option linter.unusedVariables false
def un : UnOp → AV → Option (Prop × AV)
 | .not, .lf (.v .bool b) => some (True, .lf (.v .bool (!b)))
 | .neg, .lf (.v (.int k) n) => some (True, .lf (.v (.int k) (k.wrap ((0 : Int) - n))))
 | _, _ => none
def conv (T : Tab) (src dst : TypeId) : AV → Option (Prop × AV)
 | .lf (.v (.int _) n) => match T src, T dst with
  | some { ty := .int _, .. }, some { ty := .int k, .. } => some (True, .lf (.v (.int k) (k.wrap n)))
  | _, _ => none
 | _ => none
def svAV : SV → AV
 | .lf a => .lf a
 | .agg l => .agg l
def avSV : AV → Option SV
 | .lf a => some (.lf a)
 | .agg l => some (.agg l)
 | _ => none
def nth (i : Nat) : AV → Option (Prop × AV)
 | .tup l => (l[i]?).map fun x => (True, svAV x)
 | _ => none
def nilc (H : Heap) : AV → Option (Prop × AV)
 | .lf (.ptr id ver i j) => cond (fresh H id ver) (some (True, .lf (.ptr id ver i j))) none
 | .lf (.fp t x j) => some (True, .lf (.fp t x j))
 | _ => none
def mnx (b : Builtin) : AV → AV → Option (Prop × AV)
 | .lf (.v (.int k) x), .lf (.v (.int k') y) => cond (decide (k = k')) (match b with
  | .min => some (True, .lf (.v (.int k) (if (y : Int) < x then y else x)))
  | .max => some (True, .lf (.v (.int k) (if (x : Int) < y then y else x)))
  | _ => none) none
 | _, _ => none
def caps (sl : List (Nat × AV)) : List Operand → Option (List SV)
 | [] => some []
 | x :: l => match opnd sl x with
  | some v => match avSV v, caps sl l with
   | some a, some r => some (a :: r)
   | _, _ => none
  | none => none
def evCall (T : Tab) (s : St) (c : Call) : Option (Prop × AV) :=
 match c.callee with
 | .builtin b => match c.args.toList with
  | [x] => match b with
   | .len => match opnd s.sl x, c.argTypes[0]? with
    | some v, some t => evLen T s.H t v
    | _, _ => none
   | _ => none
  | [x, y] => match opnd s.sl x, opnd s.sl y with
   | some v, some u => mnx b v u
   | _, _ => none
  | _ => none
 | _ => none
def evOp (T : Tab) (s : St) : Op → Option (Prop × AV)
 | .move x => (opnd s.sl x).map fun v => (True, v)
 | .assign x => (opnd s.sl x).map fun v => (True, v)
 | .load t x => match opnd s.sl x with
  | some v => evLoad T s.H t v
  | none => none
 | .fieldAddr t x f => match opnd s.sl x with
  | some v => evField T s.H t f v
  | none => none
 | .indexAddr t x i => match opnd s.sl x, opnd s.sl i with
  | some v, some u => evIndexAddr T s.H t v u
  | _, _ => none
 | .index t x i => match opnd s.sl x, opnd s.sl i with
  | some v, some u => evIndex T t v u
  | _, _ => none
 | .slice t x lo hi mx => match opnd s.sl x, (match lo with | none => some none | some o => (opnd s.sl o).map some), (match hi with | none => some none | some o => (opnd s.sl o).map some),
   (match mx with | none => some none | some o => (opnd s.sl o).map some) with
  | some v, some l, some h, some m => match bd l, bd h, bd m with
   | some l', some h', some m' => evSlice T s.H t v l' h' m'
   | _, _, _ => none
  | _, _, _, _ => none
 | .binOp op t x y _ => match opnd s.sl x, opnd s.sl y with
  | some v, some u => bin T op t v u
  | _, _ => none
 | .unOp op _ x => match opnd s.sl x with
  | some v => un op v
  | none => none
 | .convert a b x => match opnd s.sl x with
  | some v => conv T a b v
  | none => none
 | .extract x i => match opnd s.sl x with
  | some v => nth i v
  | none => none
 | .nilCheck x => match opnd s.sl x with
  | some v => nilc s.H v
  | none => none
 | .makeFunc (.func f) first l => match first.toList, caps s.sl l.toList with
  | [], some r => some (True, .clo f r)
  | _, _ => none
 | .call c => evCall T s c
 | _ => none
section
variable {P : Program} {T : Tab} {n : Nat} {w0 : World} {E0 : Env0} {s : St} {a : Act} {w : World} {E : Env} {μ : Nat → Value}
theorem svAV_AR {w : World} {E : Env} {μ : Nat → Value} {H : Heap} {x : SV} {y : Value} (h : SR w E μ H x y) : AR w E μ H (svAV x) y := by
 cases x with
 | lf a => exact h
 | agg l => exact h
theorem avSV_SR {w : World} {E : Env} {μ : Nat → Value} {H : Heap} {v : AV} {x : SV} (h : avSV v = some x) {y : Value} (hv : AR w E μ H v y) : SR w E μ H x y := by
 cases v <;> simp [avSV] at h <;> subst h <;> exact hv
theorem caps_SR (hA : At n w0 E0 s a w E μ) : ∀ {l : List Operand} {r : List SV}, caps s.sl l = some r → All2 (SR w E μ s.H) r (l.map a.eval)
 | [], r, h => by simp [caps] at h; subst h; exact .nil
 | x :: l, r, h => by
  simp only [caps] at h
  split at h
  ·rename_i v hv
   split at h
   ·rename_i b r' h1 h2
    simp at h
    subst h
    exact .cons (avSV_SR h1 (hA.opnd hv)) (caps_SR hA h2)
   ·simp at h
  ·simp at h
theorem evOp_run (hT : TabOk P T) (hA : At n w0 E0 s a w E μ) {o : Oper} {φ : Prop} {v : AV} (h : evOp T s o.op = some (φ, v)) (hφ : φ) :
  ∃ y, (execOp a.eval o).run P w = .ok (.value y) w ∧ AR w E μ s.H v y := by
 unfold evOp at h
 split at h
 ·rename_i x ho
  simp only [Option.map_eq_some_iff, Prod.mk.injEq] at h
  obtain ⟨v', h1, rfl, rfl⟩ := h
  exact ⟨a.eval x, by simp [execOp, ho], hA.opnd h1⟩
 ·rename_i x ho
  simp only [Option.map_eq_some_iff, Prod.mk.injEq] at h
  obtain ⟨v', h1, rfl, rfl⟩ := h
  exact ⟨a.eval x, by simp [execOp, ho], hA.opnd h1⟩
 ·rename_i t x ho
  split at h
  ·rename_i v' hv
   obtain ⟨z, h1, h2⟩ := evLoad_run hT hA.mr h hφ (hA.opnd hv)
   exact ⟨z, by simp [execOp, ho, h1], h2⟩
  ·simp at h
 ·rename_i t x f ho
  split at h
  ·rename_i v' hv
   obtain ⟨z, h1, h2⟩ := evField_run hT h (hA.opnd hv)
   exact ⟨z, by simp [execOp, ho, h1], h2⟩
  ·simp at h
 ·rename_i t x i ho
  split at h
  ·rename_i v' u' hv hu
   obtain ⟨z, h1, h2⟩ := evIndexAddr_run hT hA.mr h hφ (hA.opnd hv) (hA.opnd hu)
   exact ⟨z, by simp [execOp, ho, h1], h2⟩
  ·simp at h
 ·rename_i t x i ho
  split at h
  ·rename_i v' u' hv hu
   obtain ⟨z, h1, h2⟩ := evIndex_run hT h hφ (hA.opnd hv) (hA.opnd hu)
   exact ⟨z, by simp [execOp, ho, h1], h2⟩
  ·simp at h
 ·rename_i t x lo hi mx ho
  split at h
  ·rename_i v' l u m hv hl hu hm
   split at h
   ·rename_i l' h' m' e1 e2 e3
    have hb : ∀ {q : Option Operand} {r : Option AV}, (match q with | none => some none | some o => (opnd s.sl o).map some) = some r → (r = none ∧ q.map a.eval = none) ∨ ∃ c d, r = some c ∧ q.map a.eval = some d ∧ AR w E μ s.H c d := by
     intro q r hq
     cases q with
     | none => simp at hq; exact .inl ⟨hq.symm, rfl⟩
     | some o =>
      simp only [Option.map_eq_some_iff] at hq
      obtain ⟨c, hc, rfl⟩ := hq
      exact .inr ⟨c, a.eval o, rfl, rfl, hA.opnd hc⟩
    have b1 := bd_run e1 (hb hl)
    have b2 := bd_run e2 (hb hu)
    have b3 := bd_run e3 (hb hm)
    unfold evSlice at h
    split at h
    ·rcases b3 with ⟨_, b3⟩ | ⟨_, _, b3, _⟩
     ·obtain ⟨z, h1, h2⟩ := evCut_run hT hA.mr h hφ (hA.opnd hv) b1 b2
      exact ⟨z, by simp [execOp, ho, b3, h1], h2⟩
     ·simp at b3
    ·rename_i m0
     split at h
     ·rename_i e0 el0 of0 hti
      cases hs : isSlice v' with
      | false =>
       rw [hs] at h
       simp only [cond_false] at h
       split at h
       ·rename_i id ver
        split at h
        ·rename_i cur e xs mm hH
         cases hc : (Nat.beq ver cur && elemIs T t e) with
         | false => rw [hc] at h; simp at h
         | true =>
          rw [hc] at h
          simp only [cond_true] at h
          simp only [Bool.and_eq_true] at hc
          split at h
          ·rename_i l1 h1
           simp only [Option.some.injEq, Prod.mk.injEq] at h
           obtain ⟨rfl, rfl⟩ := h
           rcases b1 with ⟨b1, _⟩ | ⟨n1, k1, b1, b1'⟩
           ·simp at b1
           ·rcases b2 with ⟨b2, _⟩ | ⟨n2, k2, b2, b2'⟩
            ·simp at b2
            ·rcases b3 with ⟨b3, _⟩ | ⟨n3, k3, b3, b3'⟩
             ·simp at b3
             ·simp only [Option.some.injEq] at b1 b2 b3
              subst b1 b2 b3
              have hx := hA.opnd hv
              simp only [AR, LR, hH] at hx
              have hx' := hx.2.2 (Nat.eq_of_beq_eq_true hc.1)
              simp only [HdR] at hx'
              obtain ⟨hm, ha⟩ := hA.mr.arr hH
              obtain ⟨ad, c, g1, g2⟩ : ∃ a c, μ id = .slice a xs.length c ∧ xs.length ≤ c := by
               rcases ha with ⟨rfl, a, ha⟩ | ⟨b, c, arr, ty, g1, g2, _⟩
               ·exact ⟨a, 0, ha, by simp⟩
               ·exact ⟨_, c, g1, g2⟩
              obtain ⟨ti, ej, f1, f2, f3, f4, f5⟩ := elemIs_under hT hc.2
              obtain ⟨q1, q2, q3, q4⟩ := hφ
              have hb3 : (Instr.sliceBounds true xs.length c (some (.int k1 l1)) (some (.int k2 h1)) (some (.int k3 m0))).run P w = .ok (l1.toNat, h1.toNat, m0.toNat) w := by
               have s3 : ∀ cd, (Instr.sliceBound (.int k3 m0) c cd).run P w = .ok m0.toNat w := fun cd => bound_run cd (by omega) (by omega) w
               have s2 : ∀ cd, (Instr.sliceBound (.int k2 h1) m0.toNat cd).run P w = .ok h1.toNat w := fun cd => bound_run cd (by omega) (by omega) w
               have s1 : ∀ cd, (Instr.sliceBound (.int k1 l1) h1.toNat cd).run P w = .ok l1.toNat w := fun cd => bound_run cd (by omega) (by omega) w
               unfold Instr.sliceBounds
               simp [s1, s2, s3]
              have hrun : (Instr.sliceAt t (.slice ad xs.length c) (some (.int k1 l1)) (some (.int k2 h1)) (some (.int k3 m0))).run P w = .ok (.slice (if m0.toNat = l1.toNat then ad else ad.map (·.add (l1.toNat * ej.ty.lv))) (h1.toNat - l1.toNat) (m0.toNat - l1.toNat)) w := by
               simp only [Instr.sliceAt, Sem.run_bind, run_underlying f3, Result.andThen_ok, Instr.slice, hb3, hT.size f4, Sem.run_pure]
              refine ⟨_, ?_, show Value.oneCell' (.slice (if m0.toNat = l1.toNat then ad else ad.map (·.add (l1.toNat * ej.ty.lv))) (h1.toNat - l1.toNat) (m0.toNat - l1.toNat)) = true from rfl⟩
              simp [execOp, ho, b1', b2', b3', hx', g1, hrun]
          ·simp at h
        ·simp at h
       ·simp at h
      | true =>
       rw [hs] at h
       simp only [cond_true, Option.some.injEq, Prod.mk.injEq] at h
       obtain ⟨rfl, rfl⟩ := h
       obtain ⟨rfl, rfl, rfl⟩ := hφ
       have hu := (hT t _ hti).under
       simp only at hu
       obtain ⟨hu, ej, hj, _⟩ := hu
       rcases b1 with ⟨_, b1⟩ | ⟨_, _, b1, _⟩
       ·rcases b2 with ⟨b2, _⟩ | ⟨n2, k2, b2, b2'⟩
        ·simp at b2
        ·rcases b3 with ⟨b3, _⟩ | ⟨n3, k3, b3, b3'⟩
         ·simp at b3
         ·simp only [Option.some.injEq] at b2 b3
          subst b2 b3
          have hx := hA.opnd hv
          have hy : ∃ ad len cap, a.eval x = .slice ad len cap := by
           unfold isSlice at hs
           split at hs
           ·obtain ⟨v0, hv0, hr⟩ := hx
            simp only [at0, if_true, Option.some.injEq] at hv0
            subst hv0
            rcases hr with ⟨_, ⟨_, ad, c, hr⟩ | ⟨b, o, c, hr, _⟩⟩ | ⟨hr, _⟩
            ·exact ⟨_, _, _, hr⟩
            ·exact ⟨_, _, _, hr⟩
            ·exact absurd rfl hr
           ·obtain ⟨ad, hr⟩ := hx
            exact ⟨_, _, _, hr⟩
           ·simp at hs
          obtain ⟨ad, len, cap, hy⟩ := hy
          refine ⟨.slice ad 0 0, ?_, ad, rfl⟩
          simp [execOp, ho, b1, b2', b3', hy, Instr.sliceAt, run_underlying hu, Instr.slice, Instr.sliceBounds, Instr.sliceBound, asIntOf, hT.size hj]
       ·simp at b1
     ·simp at h
   ·simp at h
  ·simp at h
 ·rename_i op t x y yt ho
  split at h
  ·rename_i v' u' hv hu
   obtain ⟨h0, z, h1, h2⟩ := bin_run hT h hφ w E μ s.H (hA.opnd hv) (hA.opnd hu)
   refine ⟨z, ?_, h2⟩
   simp [execOp, ho, eqGuard_run h0, h1]
  ·simp at h
 ·rename_i op t x ho
  split at h
  ·rename_i v' hv
   have hx := hA.opnd hv
   unfold un at h
   split at h
   ·simp only [Option.some.injEq, Prod.mk.injEq] at h
    obtain ⟨rfl, rfl⟩ := h
    simp only [AR, LR_bool] at hx
    exact ⟨_, by simp [execOp, ho, hx, Op.unary], AR_bool _⟩
   ·simp only [Option.some.injEq, Prod.mk.injEq] at h
    obtain ⟨rfl, rfl⟩ := h
    simp only [AR, LR_int] at hx
    exact ⟨_, by simp only [execOp, ho, hx, Op.unary, Op.intArith]; rfl, AR_int _ _⟩
   ·simp at h
  ·simp at h
 ·rename_i t u x ho
  split at h
  ·rename_i v' hv
   have hx := hA.opnd hv
   unfold conv at h
   split at h
   ·split at h
    ·rename_i h1 h2
     simp only [Option.some.injEq, Prod.mk.injEq] at h
     obtain ⟨rfl, rfl⟩ := h
     simp only [AR, LR_int] at hx
     have u1 := (hT _ _ h1).under
     have u2 := (hT _ _ h2).under
     simp only at u1 u2
     exact ⟨_, by simp only [execOp, ho, hx, convert, Sem.run_bind, run_underlying u1, run_underlying u2, Result.andThen_ok, Conv.intToInt]; rfl, AR_int _ _⟩
    ·simp at h
   ·simp at h
  ·simp at h
 ·rename_i x i ho
  split at h
  ·rename_i v' hv
   have hx := hA.opnd hv
   unfold nth at h
   split at h
   ·rename_i l
    simp only [Option.map_eq_some_iff, Prod.mk.injEq] at h
    obtain ⟨x', h1, rfl, rfl⟩ := h
    obtain ⟨arr, h2, h3⟩ := hx
    obtain ⟨y, h4, h5⟩ := h3.get i x' h1
    refine ⟨y, ?_, svAV_AR h5⟩
    have h4' : arr[i]? = some y := by simpa using h4
    simp [execOp, ho, h2, Instr.extract, h4']
   ·simp at h
  ·simp at h
 ·rename_i x ho
  split at h
  ·rename_i v' hv
   have hx := hA.opnd hv
   have hp : (∃ ad, a.eval x = .pointer (some ad)) ∧ AR w E μ s.H v (a.eval x) ∧ True := by
    unfold nilc at h
    split at h
    ·rename_i id ver i j
     cases hf : fresh s.H id ver with
     | false => rw [hf] at h; simp at h
     | true =>
      rw [hf] at h
      simp only [cond_true, Option.some.injEq, Prod.mk.injEq] at h
      obtain ⟨rfl, rfl⟩ := h
      refine ⟨?_, hx, trivial⟩
      unfold fresh at hf
      simp only [AR, LR] at hx
      replace hx := hx.2
      split at hf
      ·rename_i l tid hH
       rw [hH] at hx
       obtain ⟨b, _, h1⟩ := hx
       exact ⟨_, h1⟩
      ·rename_i cur t' xs m hH
       rw [hH] at hx
       obtain ⟨b, n, c, _, h1⟩ := hx.2 (Nat.eq_of_beq_eq_true hf)
       exact ⟨_, h1⟩
      ·simp at hf
    ·simp only [Option.some.injEq, Prod.mk.injEq] at h
     obtain ⟨rfl, rfl⟩ := h
     obtain ⟨b, o, h1, _⟩ := id hx
     exact ⟨⟨_, h1⟩, hx, trivial⟩
    ·simp at h
   obtain ⟨⟨ad, h1⟩, h2, _⟩ := hp
   exact ⟨a.eval x, by simp [execOp, ho, h1], h2⟩
  ·simp at h
 ·rename_i f first l ho
  split at h
  ·rename_i r hf hr
   simp only [Option.some.injEq, Prod.mk.injEq] at h
   obtain ⟨rfl, rfl⟩ := h
   have : first = #[] := by simpa using hf
   subst this
   refine ⟨.func (.func f) #[] (l.map a.eval), by simp [execOp, ho, Instr.makeFunc], l.map a.eval, rfl, ?_⟩
   simpa using caps_SR hA hr
  ·simp at h
 ·rename_i c ho
  unfold evCall at h
  split at h
  ·rename_i b hb
   split at h
   ·rename_i x hx
    split at h
    ·split at h
     ·rename_i v' t hv ht
      have hargs : c.args = #[x] := by rw [← Array.toArray_toList (xs := c.args), hx]
      obtain ⟨z, h1, h2⟩ := evLen_run hT hA.mr h (hA.opnd hv) c.argTypes ht o.type
      refine ⟨z, ?_, h2⟩
      simp [execOp, ho, resolve, hb, invoke, builtin, hargs, h1]
     ·simp at h
    ·simp at h
   ·rename_i x y hx
    split at h
    ·rename_i v' u' hv hu
     have hargs : c.args = #[x, y] := by rw [← Array.toArray_toList (xs := c.args), hx]
     have h1 := hA.opnd hv
     have h2 := hA.opnd hu
     unfold mnx at h
     split at h
     ·rename_i k p k' q
      simp only [AR, LR_int] at h1 h2
      cases hk : decide (k = k') with
      | false => rw [hk] at h; simp at h
      | true =>
       rw [hk] at h
       simp only [cond_true] at h
       split at h
       ·simp only [Option.some.injEq, Prod.mk.injEq] at h
        obtain ⟨rfl, rfl⟩ := h
        refine ⟨_, ?_, AR_int _ _⟩
        simp [execOp, ho, resolve, hb, invoke, builtin, hargs, h1, h2, Builtin.min_, Builtin.min2]
       ·simp only [Option.some.injEq, Prod.mk.injEq] at h
        obtain ⟨rfl, rfl⟩ := h
        refine ⟨_, ?_, AR_int _ _⟩
        simp [execOp, ho, resolve, hb, invoke, builtin, hargs, h1, h2, Builtin.max_, Builtin.max2]
       ·simp at h
     ·simp at h
    ·simp at h
   ·simp at h
  ·simp at h
 ·simp at h
end
end Go.Proofs.YtfegppjofphpfaaDoor.Vc
namespace Go.Proofs.YtfegppjofphpfaaDoor.Vc
open Go Go.RowKit
set_option linter.unusedVariables false
set_option linter.unusedSimpArgs false
def VO (P : Program) (n : Nat) (w0 : World) (E0 : Env0) (ops : Array Oper) (Q : Exit → St → Prop) (rest : List Oper) (s : St) : Prop :=
 ∀ a w, SRel n w0 E0 s a w → wpList P ops (fun e a' w' => ∃ s', SRel n w0 E0 s' a' w' ∧ Q e s') rest a w
section
variable {P : Program} {T : Tab} {n : Nat} {w0 : World} {E0 : Env0} {s : St} {ops : Array Oper} {Q : Exit → St → Prop} {rest : List Oper}
theorem VW.region {id : Nat} (h : VO P n w0 E0 ops Q ops.toList s) : VW P n w0 E0 (.region id ops false) Q s :=
 fun a w hs => wp_region_list (h a w hs)
theorem VO.nil (h : Q .normal s) : VO P n w0 E0 ops Q [] s := fun _ _ hs => wpList_nil ⟨s, hs, h⟩
theorem look_put (sl : List (Nat × AV)) (d k : Nat) (v : AV) : look ((d, v) :: sl) k = if d = k then some v else look sl k := by
 simp only [look]
 by_cases h : d = k
 ·subst h; simp [show Nat.beq d d = true from Nat.beq_refl d]
 ·have : Nat.beq d k = false := by cases hb : Nat.beq d k; rfl; exact absurd (Nat.eq_of_beq_eq_true hb) h
  simp [this, h]
theorem At.put {a : Act} {w w' : World} {E E' : Env} {μ μ' : Nat → Value} {H' : Heap} (hA : At n w0 E0 s a w E μ) {d : Nat} {v : AV} {y : Value} (hd : d < n)
  (hM : MR w' E' μ' H' 0) (hX : Ext w E w' E') (hS : ∀ b, E.S b → E'.S b ∧ w'.heap[b]? = w.heap[b]?) (hH : KpH μ μ' s.H H') (hv : AR w' E' μ' H' v y) :
  At n w0 E0 ⟨(d, v) :: s.sl, H'⟩ (a.put (some d) y) w' E' μ' where
 size := ⟨by simp [Act.put, hA.size.1], hA.size.2⟩
 defers := hA.defers
 apart := hA.apart
 mr := hM
 ext := hA.ext.trans hA.apart hX
 slots := fun k u hu => by
  rw [look_put] at hu
  by_cases hdk : d = k
  ·subst hdk
   simp only [if_true, Option.some.injEq] at hu
   subst hu
   exact ⟨y, by rw [getS_lt (Nat.lt_of_lt_of_le hd hA.size.2)]; simp [Act.put, Array.getElem?_setIfInBounds, hA.size.1, hd], hv⟩
  ·rw [if_neg hdk] at hu
   obtain ⟨z, h1, h2⟩ := hA.slots k u hu
   refine ⟨z, ?_, AR.keep hS hH _ _ h2⟩
   unfold getS at h1 ⊢
   split
   ·rename_i hk; rw [if_pos hk] at h1; simp [Act.put, Array.getElem?_setIfInBounds, hdk, h1]
   ·rename_i hk; rw [if_neg hk] at h1; exact h1
theorem At.unput {a : Act} {w w' : World} {E E' : Env} {μ μ' : Nat → Value} {H' : Heap} (hA : At n w0 E0 s a w E μ)
  (hM : MR w' E' μ' H' 0) (hX : Ext w E w' E') (hS : ∀ b, E.S b → E'.S b ∧ w'.heap[b]? = w.heap[b]?) (hH : KpH μ μ' s.H H') :
  At n w0 E0 ⟨s.sl, H'⟩ a w' E' μ' where
 size := hA.size
 defers := hA.defers
 apart := hA.apart
 mr := hM
 ext := hA.ext.trans hA.apart hX
 slots := fun k u hu => by
  obtain ⟨z, h1, h2⟩ := hA.slots k u hu
  exact ⟨z, h1, AR.keep hS hH _ _ h2⟩
def evQ (T : Tab) (n : Nat) (s : St) (o : Oper) : Option (Nat × Prop × AV) :=
 match o.guard, o.dst with
 | none, some d => cond (Nat.blt d n) ((evOp T s o.op).map fun r => (d, r.1, r.2)) none
 | _, _ => none
theorem wpList_value {o : Oper} {a : Act} {w w' : World} {y : Value} {R : Exit → Act → World → Prop} (hg : o.guard = none) (h : (execOp a.eval o).run P w = .ok (.value y) w') (k : wpList P ops R rest (a.put o.dst y) w') :
  wpList P ops R (o :: rest) a w := by
 refine wpList_plain hg fun K hK => ?_
 simp only [Oper.wp, h, Oper.upon]
 exact hK _ _ k
theorem wpList_skip {o : Oper} {a : Act} {w w' : World} {R : Exit → Act → World → Prop} (hg : o.guard = none) (h : (execOp a.eval o).run P w = .ok .skip w') (k : wpList P ops R rest (a.put o.dst undef) w') :
  wpList P ops R (o :: rest) a w := by
 refine wpList_plain hg fun K hK => ?_
 simp only [Oper.wp, h, Oper.upon]
 exact hK _ _ k
theorem VO.q {o : Oper} {d : Nat} {φ : Prop} {v : AV} (hT : TabOk P T) (h : evQ T n s o = some (d, φ, v)) (hφ : φ) (k : VO P n w0 E0 ops Q rest ⟨(d, v) :: s.sl, s.H⟩) : VO P n w0 E0 ops Q (o :: rest) s := by
 intro a w hs
 obtain ⟨E, μ, hA⟩ := hs.at
 unfold evQ at h
 split at h
 ·rename_i d' hg hd
  cases hb : Nat.blt d' n with
  | false => rw [hb] at h; simp at h
  | true =>
   rw [hb] at h
   simp only [cond_true, Option.map_eq_some_iff, Prod.mk.injEq] at h
   obtain ⟨⟨φ', v'⟩, h1, rfl, rfl, rfl⟩ := h
   obtain ⟨y, h2, h3⟩ := evOp_run hT hA h1 hφ
   refine wpList_value hg h2 ?_
   rw [hd]
   exact k _ _ (hA.put (by simpa [Nat.blt_eq] using hb) hA.mr (Ext.refl w E) (fun b hb => ⟨hb, rfl⟩) (KpH.refl μ s.H) h3).rel
 ·simp at h
theorem VO.off {o : Oper} {j : Nat} {want : Bool} {g : Oper} {d : Nat} {b : Bool} {e : Nat} (hg : o.guard = some (j, want)) (hj : ops[j]? = some g) (hd : g.dst = some d) (hb : opnd s.sl (.tmp d) = some (.lf (.v .bool b))) (hw : b ≠ want)
  (he : o.dst = some e) (hn : e < n) (k : VO P n w0 E0 ops Q rest ⟨(e, .unk) :: s.sl, s.H⟩) : VO P n w0 E0 ops Q (o :: rest) s := by
 intro a w hs
 obtain ⟨E, μ, hA⟩ := hs.at
 obtain ⟨y, h1, h2⟩ := hA.tmp hb
 simp only [AR, LR_bool] at h2
 subst h2
 have hy : yielded ops a.tmps j = some b := by
  simp [yielded, hj, hd, h1]
 have hwt : Region.wanted o (yielded ops a.tmps) = false := by
  simp [Region.wanted, hg, hy, hw]
 unfold wpList
 rw [if_neg (by simp [hwt]), he]
 exact k _ _ (hA.put hn hA.mr (Ext.refl w E) (fun b hb => ⟨hb, rfl⟩) (KpH.refl μ s.H) (v := .unk) rfl).rel
theorem VO.off2 {o : Oper} {j : Nat} {want : Bool} {g : Oper} {d : Nat} {e : Nat} (hg : o.guard = some (j, want)) (hj : ops[j]? = some g) (hd : g.dst = some d) (hb : opnd s.sl (.tmp d) = some .unk)
  (he : o.dst = some e) (hn : e < n) (k : VO P n w0 E0 ops Q rest ⟨(e, .unk) :: s.sl, s.H⟩) : VO P n w0 E0 ops Q (o :: rest) s := by
 intro a w hs
 obtain ⟨E, μ, hA⟩ := hs.at
 obtain ⟨y, h1, h2⟩ := hA.tmp hb
 have h2 : y = undef := h2
 subst h2
 have hy : yielded ops a.tmps j = none := by
  simp [yielded, hj, hd, h1, undef]
 have hwt : Region.wanted o (yielded ops a.tmps) = false := by
  simp [Region.wanted, hg, hy]
 unfold wpList
 rw [if_neg (by simp [hwt]), he]
 exact k _ _ (hA.put hn hA.mr (Ext.refl w E) (fun b hb => ⟨hb, rfl⟩) (KpH.refl μ s.H) (v := .unk) rfl).rel
theorem VO.on {o : Oper} {j : Nat} {want : Bool} {g : Oper} {d : Nat} {b : Bool} (hg : o.guard = some (j, want)) (hj : ops[j]? = some g) (hd : g.dst = some d) (hb : opnd s.sl (.tmp d) = some (.lf (.v .bool b))) (hw : b = want)
  (k : VO P n w0 E0 ops Q ({ o with guard := none } :: rest) s) : VO P n w0 E0 ops Q (o :: rest) s := by
 intro a w hs
 obtain ⟨E, μ, hA⟩ := hs.at
 obtain ⟨y, h1, h2⟩ := hA.tmp hb
 simp only [AR, LR_bool] at h2
 subst h2
 have hy : yielded ops a.tmps j = some b := by
  simp [yielded, hj, hd, h1]
 have hwt : Region.wanted o (yielded ops a.tmps) = true := by
  simp [Region.wanted, hg, hy, hw]
 have := k a w hs
 unfold wpList at this ⊢
 rw [if_pos hwt]
 rw [if_pos (by simp [Region.wanted])] at this
 exact this
theorem VO.pick {o : Oper} {c x y : Operand} {d : Nat} {b : Bool} {v : AV} (ho : o.op = .pick c x y) (hg : o.guard = none) (hd : o.dst = some d) (hn : d < n) (hc : opnd s.sl c = some (.lf (.v .bool b)))
  (hv : opnd s.sl (if b then x else y) = some v) (k : VO P n w0 E0 ops Q rest ⟨(d, v) :: s.sl, s.H⟩) : VO P n w0 E0 ops Q (o :: rest) s := by
 intro a w hs
 obtain ⟨E, μ, hA⟩ := hs.at
 have hc' := hA.opnd hc
 simp only [AR, LR_bool] at hc'
 refine wpList_value (y := a.eval (if b then x else y)) (w' := w) hg ?_ ?_
 ·simp only [execOp, ho, hc', asBool, Sem.run_bind, Sem.run_pure, Result.andThen_ok]
  cases b <;> simp
 ·rw [hd]
  exact k _ _ (hA.put hn hA.mr (Ext.refl w E) (fun b hb => ⟨hb, rfl⟩) (KpH.refl μ s.H) (hA.opnd hv)).rel
end
end Go.Proofs.YtfegppjofphpfaaDoor.Vc
namespace Go.Proofs.YtfegppjofphpfaaDoor.Vc
open Go Go.RowKit
set_option linter.unusedVariables false
set_option linter.unusedSimpArgs false
section
variable {P : Program} {T : Tab} {n : Nat} {w0 : World} {E0 : Env0} {s : St} {ops : Array Oper} {Q : Exit → St → Prop} {rest : List Oper}
variable {w w' : World} {E E' : Env} {μ μ' : Nat → Value} {H H' : Heap}
theorem NB.keep (hS : ∀ b, E.S b → E'.S b ∧ w'.heap[b]? = w.heap[b]?) (hH : KpH μ μ' H H') {id : Nat} (hκ : ∀ b q, E.κ b = some (.id id, q) → E'.κ b = some (.id id, q) ∧ w'.heap[b]? = w.heap[b]?) (hμ : μ' id = μ id) :
  ∀ {blk : Blk}, NB w E μ H id blk → NB w' E' μ' H' id blk
 | .box l tid, h => by
  obtain ⟨b, arr, h1, h2, h3, h4⟩ := h
  obtain ⟨h5, h6⟩ := hκ b _ h2
  exact ⟨b, arr, hμ.trans h1, h5, h6.trans h3, h4.imp (LR.keep hS hH)⟩
 | .arr ver t xs m, h => by
  refine ⟨h.1, ?_⟩
  rw [hμ]
  exact Rep.move (fun _ => True) (fun q => q) hS (fun b q _ hb => ⟨(hκ b q hb).1, (hκ b q hb).2, fun k => ⟨trivial, rfl⟩⟩) (.sl t) xs m _ _ _ _ (fun _ => ⟨fun _ => trivial, fun _ => rfl⟩) (fun _ _ _ h => h) h.2
theorem MR.step {k k' : Nat} (hM : MR w E μ H k) (apart : ∀ b, E'.S b → E'.κ b = none) (ltS : ∀ b, E'.S b → b < w'.heap.size) (ltκ : ∀ b, E'.κ b ≠ none → b < w'.heap.size)
  (roots : ∀ b r q, E'.κ b = some (r, q) → (∃ n, r = .id n ∧ n < H'.length) ∨ ∃ n, r = .res n ∧ n < k')
  (hS : ∀ b, E.S b → E'.S b ∧ w'.heap[b]? = w.heap[b]?) (hH : KpH μ μ' H H')
  (old : ∀ (id : Nat) blk, H'[id]? = some (some blk) → (H[id]? = some (some blk) ∧ μ' id = μ id ∧ ∀ b q, E.κ b = some (.id id, q) → E'.κ b = some (.id id, q) ∧ w'.heap[b]? = w.heap[b]?) ∨ NB w' E' μ' H' id blk) :
  MR w' E' μ' H' k' where
 apart := apart
 ltS := ltS
 ltκ := ltκ
 roots := roots
 blks := fun id blk h => by
  rcases old id blk h with ⟨h1, h2, h3⟩ | h1
  ·exact NB.keep hS hH h3 h2 (hM.blks id blk h1)
  ·exact h1
def putμ (μ : Nat → Value) (id : Nat) (y : Value) : Nat → Value := fun i => if i = id then y else μ i
def putκ (E : Env) (b : Nat) (x : Root × Pos) : Env := ⟨E.S, fun c => if c = b then some x else E.κ c⟩
theorem KpH.push (H : Heap) (b : Option Blk) (y : Value) : KpH μ (putμ μ H.length y) H (H ++ [b]) := by
 intro id c h
 have hlt : id < H.length := (List.getElem?_eq_some_iff.1 h).1
 refine ⟨c, by rw [List.getElem?_append_left hlt]; exact h, ?_⟩
 rw [show putμ μ H.length y id = μ id by simp [putμ]; omega]
 exact Kp.refl _ _
theorem alloc_heap (w : World) (o : Obj) : (w.alloc o).heap = w.heap.push o := rfl
theorem alloc_old (w : World) (o : Obj) {b : Nat} (h : b < w.heap.size) : (w.alloc o).heap[b]? = w.heap[b]? := Below.heap_alloc w o b h
theorem MR.alloc {k : Nat} (hM : MR w E μ H k) (arr : Array Value) (ty : TypeId) (y : Value) (blk : Blk)
  (hb : NB (w.alloc (.cells arr ty)) (putκ E w.heap.size (.id H.length, .top)) (putμ μ H.length y) (H ++ [some blk]) H.length blk) :
  MR (w.alloc (.cells arr ty)) (putκ E w.heap.size (.id H.length, .top)) (putμ μ H.length y) (H ++ [some blk]) k ∧
  Ext w E (w.alloc (.cells arr ty)) (putκ E w.heap.size (.id H.length, .top)) ∧
  (∀ b, E.S b → (putκ E w.heap.size (.id H.length, .top)).S b ∧ (w.alloc (.cells arr ty)).heap[b]? = w.heap[b]?) := by
 have hS : ∀ b, E.S b → (putκ E w.heap.size (.id H.length, .top)).S b ∧ (w.alloc (.cells arr ty)).heap[b]? = w.heap[b]? := fun b h => ⟨h, alloc_old w _ (hM.ltS b h)⟩
 have hκ : ∀ b, E.κ b ≠ none → b ≠ w.heap.size := fun b h e => by have := hM.ltκ b h; omega
 refine ⟨MR.step hM ?_ ?_ ?_ ?_ hS (KpH.push H _ y) ?_, ?_, hS⟩
 ·intro b h
  have := hM.ltS b h
  simp only [putκ, if_neg (show b ≠ w.heap.size by omega)]
  exact hM.apart b h
 ·intro b h
  have := hM.ltS b h
  simp [alloc_heap]; omega
 ·intro b h
  simp only [putκ] at h
  split at h
  ·simp [alloc_heap]; omega
  ·have := hM.ltκ b h
   simp [alloc_heap]; omega
 ·intro b r q h
  simp only [putκ] at h
  split at h
  ·simp only [Option.some.injEq, Prod.mk.injEq] at h
   exact .inl ⟨H.length, h.1.symm, by simp⟩
  ·rcases hM.roots b r q h with ⟨m, h1, h2⟩ | h1
   ·exact .inl ⟨m, h1, by simp; omega⟩
   ·exact .inr h1
 ·intro id blk' h
  by_cases hid : id < H.length
  ·rw [List.getElem?_append_left hid] at h
   refine .inl ⟨h, by simp [putμ]; omega, fun b q hq => ?_⟩
   have hb := hM.ltκ b (by simp [hq])
   refine ⟨?_, alloc_old w _ hb⟩
   simp only [putκ, if_neg (show b ≠ w.heap.size by omega)]
   exact hq
  ·have hlt : id < (H ++ [some blk]).length := (List.getElem?_eq_some_iff.1 h).1
   have : id = H.length := by simp at hlt; omega
   subst this
   simp only [List.getElem?_concat_length, Option.some.injEq] at h
   subst h
   exact .inr hb
 ·refine ⟨rfl, rfl, rfl, by simp [alloc_heap], fun b hb _ => alloc_old w _ hb, fun b h => h, fun b h => .inl h, fun b h => ?_⟩
  simp only [putκ] at h
  split at h
  ·rename_i e; exact .inr (by omega)
  ·exact .inl h
def zlfs : Ty → List Lf
 | .int k => [.v (.int k) (0 : Int)]
 | .bool => [.v .bool false]
 | .str => [.v .str ByteArray.empty]
 | .sl _ => [.nil]
 | .pair a b => zlfs a ++ zlfs b
theorem zlfs_LR : ∀ t : Ty, All2 (LR w E μ H) (zlfs t) t.zeros
 | .int k => .cons (LR_int.2 rfl) .nil
 | .bool => .cons (LR_bool.2 rfl) .nil
 | .str => .cons (LR_str.2 rfl) .nil
 | .sl _ => .cons ⟨none, rfl⟩ .nil
 | .pair a b => (zlfs_LR a).append (zlfs_LR b)
theorem rep_first : ∀ {t : Ty} {r : Root} {x : t.den} {m : Md} {p : Nat → Pos} {g : Nat → Option Value}, Rep w E r t x m p g → ∃ v, g 0 = some v
 | .int _, _, _, _, _, _, h => ⟨_, h⟩
 | .bool, _, _, _, _, _, h => ⟨_, h⟩
 | .str, _, _, _, _, _, h => ⟨_, h⟩
 | .sl _, _, _, _, _, _, h => ⟨_, h.choose_spec.1⟩
 | .pair _ _, _, _, _, _, _, h => rep_first h.1
theorem lv_pos : ∀ t : Ty, 0 < t.lv
 | .int _ => by simp [Ty.lv]
 | .bool => by simp [Ty.lv]
 | .str => by simp [Ty.lv]
 | .sl _ => by simp [Ty.lv]
 | .pair a b => by have := lv_pos a; simp only [Ty.lv]; omega
theorem LR_one : ∀ {a : Lf} {y : Value}, LR w E μ H a y → y.oneCell' = true
 | .v t x, y, h => by
  cases t with
  | int k => rw [LR_int.1 h]; rfl
  | bool => rw [LR_bool.1 h]; rfl
  | str => rw [LR_str.1 h]; rfl
  | sl t =>
   have h' : Rep w E (.res 0) (.sl t) x .fz (fun _ => .top) (at0 y) := h
   exact rep_sl_one h' (by simp [at0])
  | pair a b =>
   obtain ⟨v, hv⟩ := rep_first h.2
   have := lv_pos a
   simp only [at0] at hv
   rw [if_neg (by omega)] at hv
   simp at hv
 | .nil, y, h => by obtain ⟨a, rfl⟩ := h; rfl
 | .hd .., y, h => h.1
 | .ptr .., y, h => h.1
 | .fp .., y, h => by obtain ⟨b, o, rfl, _⟩ := h; rfl
 | .any, y, h => h
theorem one_cells {y : Value} (h : y.oneCell' = true) : y.cells = #[y] := by
 cases y <;> first | rfl | simp [Value.oneCell'] at h
def cellsOf : AV → Option (List Lf)
 | .lf a => some [a]
 | .agg l => some l
 | _ => none
theorem cellsOf_run {v : AV} {l : List Lf} {y : Value} (h : cellsOf v = some l) (hy : AR w E μ H v y) : All2 (LR w E μ H) l y.cells.toList := by
 unfold cellsOf at h
 split at h
 ·rename_i a
  simp only [Option.some.injEq] at h
  subst h
  rw [one_cells (LR_one hy)]
  exact .cons hy .nil
 ·simp only [Option.some.injEq] at h
  subst h
  obtain ⟨arr, rfl, h⟩ := hy
  exact h
 ·simp at h
def evNew (T : Tab) (n : Nat) (s : St) (o : Oper) : Option (Nat × AV × Heap) :=
 match o.guard, o.dst with
 | none, some d => cond (Nat.blt d n) (match o.op with
  | .alloc t => match T t with
   | some ti => some (d, .lf (.ptr s.H.length 0 0 0), s.H ++ [some (.box (zlfs ti.ty) t)])
   | none => none
  | .box t x => match opnd s.sl x with
   | some v => match cellsOf v with
    | some l => some (d, .lf (.ptr s.H.length 0 0 0), s.H ++ [some (.box l t)])
    | none => none
   | none => none
  | _ => none) none
 | _, _ => none
theorem box_new {k : Nat} (hM : MR w E μ H k) (arr : Array Value) (ty : TypeId) (l : List Lf) (h : All2 (LR w E μ H) l arr.toList) :
  NB (w.alloc (.cells arr ty)) (putκ E w.heap.size (.id H.length, .top)) (putμ μ H.length (.pointer (some ⟨w.heap.size, 0, none⟩))) (H ++ [some (.box l ty)]) H.length (.box l ty) := by
 refine ⟨w.heap.size, arr, by simp [putμ], by simp [putκ], by simp [alloc_heap], h.imp ?_⟩
 exact LR.keep (fun b hb => ⟨hb, alloc_old w _ (hM.ltS b hb)⟩) (KpH.push H _ _)
theorem VO.new {o : Oper} {d : Nat} {v : AV} {H' : Heap} (hT : TabOk P T) (h : evNew T n s o = some (d, v, H')) (k : VO P n w0 E0 ops Q rest ⟨(d, v) :: s.sl, H'⟩) : VO P n w0 E0 ops Q (o :: rest) s := by
 intro a w hs
 obtain ⟨E, μ, hA⟩ := hs.at
 unfold evNew at h
 split at h
 ·rename_i d' hg hd
  cases hb : Nat.blt d' n with
  | false => rw [hb] at h; simp at h
  | true =>
   rw [hb] at h
   simp only [cond_true] at h
   have hdn : d' < n := by simpa [Nat.blt_eq] using hb
   have fin : ∀ (arr : Array Value) (ty : TypeId) (l : List Lf), All2 (LR w E μ s.H) l arr.toList → (execOp a.eval o).run P w = .ok (.value (.pointer (some ⟨w.heap.size, 0, none⟩))) (w.alloc (.cells arr ty)) →
     VO P n w0 E0 ops Q rest ⟨(d', .lf (.ptr s.H.length 0 0 0)) :: s.sl, s.H ++ [some (.box l ty)]⟩ → wpList P ops (fun e a' w' => ∃ s', SRel n w0 E0 s' a' w' ∧ Q e s') (o :: rest) a w := by
    intro arr ty l hl hrun k
    obtain ⟨h1, h2, h3⟩ := MR.alloc hA.mr arr ty _ _ (box_new hA.mr arr ty l hl)
    refine wpList_value hg hrun ?_
    rw [hd]
    refine k _ _ (hA.put hdn h1 h2 h3 (KpH.push s.H _ _) ?_).rel
    simp [AR, LR, putμ, Value.oneCell']
   split at h
   ·rename_i t ho
    split at h
    ·rename_i ti hi
     simp only [Option.some.injEq, Prod.mk.injEq] at h
     obtain ⟨rfl, rfl, rfl⟩ := h
     obtain ⟨info, h1, h2, h3, _⟩ := (hT t ti hi).info
     obtain ⟨z, hz, hz'⟩ := Option.map_eq_some_iff.1 h3
     refine fin z.cells t (zlfs ti.ty) (by rw [hz']; exact zlfs_LR _) ?_ k
     simp only [execOp, ho, Instr.alloc, Sem.run_bind, zeroValue, typeInfo, run_program, Result.andThen_ok, h1, Sem.run_pure, hz, newVar, newRow, run_newObj]
     rfl
    ·simp at h
   ·rename_i t x ho
    split at h
    ·rename_i v' hv
     split at h
     ·rename_i l hl
      simp only [Option.some.injEq, Prod.mk.injEq] at h
      obtain ⟨rfl, rfl, rfl⟩ := h
      refine fin (a.eval x).cells t l (cellsOf_run hl (hA.opnd hv)) ?_ k
      simp only [execOp, ho, Instr.box, newVar, newRow, Sem.run_bind, run_newObj, Result.andThen_ok, Sem.run_pure]
      rfl
     ·simp at h
    ·simp at h
   ·simp at h
 ·simp at h
end
end Go.Proofs.YtfegppjofphpfaaDoor.Vc
namespace Go.Proofs.YtfegppjofphpfaaDoor.Vc
open Go Go.RowKit
set_option linter.unusedVariables false
set_option linter.unusedSimpArgs false
def setInt (k : IntKind) : Nat → Lf → Option Int
 | 0, .v (.int k') y => if k = k' then some y else none
 | _, _ => none
def setBool : Nat → Lf → Option Bool
 | 0, .v .bool y => some y
 | _, _ => none
def setStr : Nat → Lf → Option ByteArray
 | 0, .v .str y => some y
 | _, _ => none
def setSl (t : Ty) : Nat → Lf → Md → Option (List t.den)
 | 0, .v (.sl t') y, .fz => if h : t' = t then some (cast (congrArg (fun t => List (Ty.den t)) h) y) else none
 | 0, .nil, _ => some []
 | _, _, _ => none
def setLf : (t : Ty) → t.den → Nat → Lf → Md → Option t.den
 | .int k, _, j, l, _ => setInt k j l
 | .bool, _, j, l, _ => setBool j l
 | .str, _, j, l, _ => setStr j l
 | .sl t, _, j, l, m => setSl t j l m
 | .pair a b, x, j, l, m => cond (Nat.blt j a.lv) ((setLf a x.1 j l m).map fun y => (y, x.2)) ((setLf b x.2 (j - a.lv) l m).map fun y => (x.1, y))
def setLfs (t : Ty) (m : Md) : t.den → Nat → List Lf → Option t.den
 | x, _, [] => some x
 | x, j, l :: ls => match setLf t x j l m with
  | some y => setLfs t m y (j + 1) ls
  | none => none
section
variable {P : Program} {T : Tab} {n : Nat} {w0 : World} {E0 : Env0} {s : St} {ops : Array Oper} {Q : Exit → St → Prop} {rest : List Oper}
variable {w w' : World} {E E' : Env} {μ μ' : Nat → Value} {H H' : Heap}
theorem setLf_rep {r : Root} : ∀ (t : Ty) (x : t.den) (j : Nat) (a : Lf) (m : Md) (x' : t.den) (p : Nat → Pos) (g : Nat → Option Value) (y : Value), setLf t x j a m = some x' → LR w E μ H a y → Rep w E r t x m p g →
  Rep w E r t x' m p (fun k => if k = j then some y else g k)
 | .int k, x, j, a, m, x', p, g, y, h, ha, hr => by
  simp only [setLf] at h
  unfold setInt at h
  split at h
  ·rename_i k2 z
   split at h
   ·rename_i hk
    subst hk
    simp only [Option.some.injEq] at h
    subst h
    simp only [Rep, if_true]
    rw [LR_int.1 ha]
   ·simp at h
  ·simp at h
 | .bool, x, j, a, m, x', p, g, y, h, ha, hr => by
  simp only [setLf] at h
  unfold setBool at h
  split at h
  ·simp only [Option.some.injEq] at h
   subst h
   simp only [Rep, if_true]
   rw [LR_bool.1 ha]
  ·simp at h
 | .str, x, j, a, m, x', p, g, y, h, ha, hr => by
  simp only [setLf] at h
  unfold setStr at h
  split at h
  ·simp only [Option.some.injEq] at h
   subst h
   simp only [Rep, if_true]
   rw [LR_str.1 ha]
  ·simp at h
 | .sl t, x, j, a, m, x', p, g, y, h, ha, hr => by
  simp only [setLf] at h
  unfold setSl at h
  split at h
  ·split at h
   ·rename_i t' z hk
    subst hk
    simp only [Option.some.injEq, cast_eq] at h
    subst h
    have ha' : Rep w E (.res 0) (.sl _) z .fz (fun _ => .top) (at0 y) := ha
    exact Rep.fz (fun b hb => ⟨hb, rfl⟩) (.sl _) z (fun k v _ hv => by
     simp only [at0] at hv
     split at hv
     ·rename_i hk; subst hk; simpa using hv
     ·simp at hv) ha'
   ·simp at h
  ·simp only [Option.some.injEq] at h
   subst h
   obtain ⟨ad, rfl⟩ := ha
   refine ⟨.slice ad 0 0, by simp, ?_⟩
   by_cases hm : m = .fz
   ·exact .inl ⟨hm, .inl ⟨rfl, ad, 0, rfl⟩⟩
   ·exact .inr ⟨hm, .inl ⟨rfl, ad, rfl⟩⟩
  ·simp at h
 | .pair t u, x, j, a, m, x', p, g, y, h, ha, hr => by
  unfold setLf at h
  cases hb : Nat.blt j t.lv with
  | true =>
   rw [hb] at h
   have hlt : j < t.lv := by simpa [Nat.blt_eq] using hb
   simp only [cond_true, Option.map_eq_some_iff] at h
   obtain ⟨z, h1, rfl⟩ := h
   refine ⟨setLf_rep t x.1 j a m z p g y h1 ha hr.1, ?_⟩
   have e : (fun i => (fun k => if k = j then some y else g k) (i + t.lv)) = fun i => g (i + t.lv) := by
    funext i
    simp only
    rw [if_neg (by omega)]
   rw [e]
   exact hr.2
  | false =>
   rw [hb] at h
   have hge : ¬ j < t.lv := by
    intro hlt
    have : Nat.blt j t.lv = true := by simpa [Nat.blt_eq] using hlt
    rw [hb] at this
    simp at this
   simp only [cond_false, Option.map_eq_some_iff] at h
   obtain ⟨z, h1, rfl⟩ := h
   constructor
   ·refine Rep.move (fun _ => True) id (fun b hb => ⟨hb, rfl⟩) (fun b q _ hq => ⟨hq, rfl, fun k => ⟨trivial, rfl⟩⟩) t x.1 m p p g _ (fun _ => ⟨fun _ => trivial, fun _ => rfl⟩) (fun i v hi hv => ?_) hr.1
    rw [if_neg (by omega)]
    exact hv
   ·have := setLf_rep u x.2 (j - t.lv) a m z _ _ y h1 ha hr.2
    have e : (fun i => (fun k => if k = j then some y else g k) (i + t.lv)) = fun k => if k = j - t.lv then some y else g (k + t.lv) := by
     funext i
     simp only
     by_cases hi : i = j - t.lv
     ·rw [if_pos (by omega), if_pos hi]
     ·rw [if_neg (by omega), if_neg hi]
    rw [e]
    exact this
theorem setLfs_rep {r : Root} {t : Ty} {m : Md} {p : Nat → Pos} : ∀ (ls : List Lf) (ys : List Value) (x : t.den) (j : Nat) (x' : t.den) (g : Nat → Option Value), setLfs t m x j ls = some x' → All2 (LR w E μ H) ls ys → Rep w E r t x m p g →
  Rep w E r t x' m p (fun k => if j ≤ k ∧ k < j + ys.length then ys[k - j]? else g k)
 | [], _, x, j, x', g, h, .nil, hr => by
  simp only [setLfs, Option.some.injEq] at h
  subst h
  have e : (fun k => if j ≤ k ∧ k < j + ([] : List Value).length then ([] : List Value)[k - j]? else g k) = g := by
   funext k
   exact if_neg (fun hh => by have h1 := hh.2; simp at h1; omega)
  rw [e]
  exact hr
 | l :: ls, y :: ys, x, j, x', g, h, .cons h1 h2, hr => by
  simp only [setLfs] at h
  split at h
  ·rename_i z hz
   have a1 := setLf_rep t x j l m z p g y hz h1 hr
   have a2 := setLfs_rep ls ys z (j + 1) x' _ h h2 a1
   have e : (fun k => if j + 1 ≤ k ∧ k < j + 1 + ys.length then ys[k - (j + 1)]? else if k = j then some y else g k) = fun k => if j ≤ k ∧ k < j + (y :: ys).length then (y :: ys)[k - j]? else g k := by
    funext k
    by_cases hk : k = j
    ·subst hk
     rw [if_neg (by omega), if_pos rfl, if_pos (by simp)]
     try simp
    ·by_cases hk2 : j + 1 ≤ k ∧ k < j + 1 + ys.length
     ·rw [if_pos hk2, if_pos (by simp; omega), show k - j = (k - (j + 1)) + 1 by omega, List.getElem?_cons_succ]
     ·rw [if_neg hk2, if_neg hk, if_neg (by simp; omega)]
   rw [← e]
   exact a2
  ·simp at h
def spl (l : List Lf) (j : Nat) (cs : List Lf) : List Lf := l.take j ++ cs ++ l.drop (j + cs.length)
def evStore (T : Tab) (s : St) (o : Oper) : Option (Prop × Heap) :=
 match o.guard, o.dst, o.op with
 | none, none, .store t ad x => match T t, opnd s.sl ad, opnd s.sl x with
  | some ti, some (.lf (.ptr id ver i j)), some v => match cellsOf v with
   | some cs => cond (Nat.beq cs.length ti.ty.lv) (match s.H[id]? with
    | some (some (.box l tid)) => cond (Nat.ble (j + cs.length) l.length) (some (True, s.H.set id (some (.box (spl l j cs) tid)))) none
    | some (some (.arr cur t' xs m)) => cond (Nat.beq ver cur && Nat.ble (j + cs.length) t'.lv) (match setLfs t' m.nest (xs.getD i t'.dflt) j cs with
     | some y => some (i < xs.length, s.H.set id (some (.arr cur t' (xs.set i y) m)))
     | none => none) none
    | _ => none) none
   | none => none
  | _, _, _ => none
 | _, _, _ => none
theorem KpH.set {id : Nat} {b b' : Option Blk} (hb : H[id]? = some b) (hk : Kp (μ id) (μ id) b b') : KpH μ μ H (H.set id b') := by
 intro i c hc
 by_cases h : i = id
 ·subst h
  rw [hb] at hc
  simp only [Option.some.injEq] at hc
  subst hc
  have hlt : i < H.length := (List.getElem?_eq_some_iff.1 hb).1
  exact ⟨b', by simp [hlt], hk⟩
 ·exact ⟨c, by rw [List.getElem?_set_ne (Ne.symm h)]; exact hc, Kp.refl _ _⟩
theorem MR.wrote {k : Nat} (hM : MR w E μ H k) {id b : Nat} {blk blk' : Blk} (hH : H[id]? = some (some blk)) (hκ : E.κ b = some (.id id, .top)) {arr : Array Value} {ty : TypeId} (hb : w.heap[b]? = some (.cells arr ty (0, 0)))
  (hk : Kp (μ id) (μ id) (some blk) (some blk')) (hw : ∀ c, c ≠ b → w'.heap[c]? = w.heap[c]?) (hsz : w'.heap.size = w.heap.size) (hos : w'.os = w.os ∧ w'.tape = w.tape ∧ w'.output = w.output)
  (hN : NB w' E μ (H.set id (some blk')) id blk') :
  MR w' E μ (H.set id (some blk')) k ∧ Ext w E w' E ∧ (∀ c, E.S c → E.S c ∧ w'.heap[c]? = w.heap[c]?) ∧ KpH μ μ H (H.set id (some blk')) := by
 have hne : ∀ c, E.S c → c ≠ b := fun c hc e => by subst e; have := hM.apart c hc; rw [hκ] at this; simp at this
 have hS : ∀ c, E.S c → E.S c ∧ w'.heap[c]? = w.heap[c]? := fun c hc => ⟨hc, hw c (hne c hc)⟩
 have hK : KpH μ μ H (H.set id (some blk')) := KpH.set hH hk
 refine ⟨MR.step hM hM.apart (fun c hc => by rw [hsz]; exact hM.ltS c hc) (fun c hc => by rw [hsz]; exact hM.ltκ c hc) (fun c r q hc => by simpa using hM.roots c r q hc) hS hK ?_, ?_, hS, hK⟩
 ·intro i bl hi
  by_cases h : i = id
  ·subst h
   have hlt : i < H.length := (List.getElem?_eq_some_iff.1 hH).1
   simp only [List.getElem?_set_self hlt, Option.some.injEq] at hi
   subst hi
   exact .inr hN
  ·rw [List.getElem?_set_ne (Ne.symm h)] at hi
   refine .inl ⟨hi, rfl, fun c q hc => ⟨hc, hw c (fun e => ?_)⟩⟩
   subst e
   rw [hκ] at hc
   simp only [Option.some.injEq, Prod.mk.injEq, Root.id.injEq] at hc
   exact h hc.1.symm
 ·exact ⟨hos.1, hos.2.1, hos.2.2, by omega, fun c hc hn => hw c (fun e => by subst e; rw [hκ] at hn; simp at hn), fun c hc => hc, fun c hc => .inl hc, fun c hc => .inl hc⟩
theorem All2.take {α β : Type} {R : α → β → Prop} {xs : List α} {ys : List β} (h : All2 R xs ys) (k : Nat) : All2 R (xs.take k) (ys.take k) := by
 induction h generalizing k with
 | nil => simp; exact .nil
 | cons h1 h2 ih => cases k with
  | zero => exact .nil
  | succ k => exact .cons h1 (ih k)
theorem All2.drop {α β : Type} {R : α → β → Prop} {xs : List α} {ys : List β} (h : All2 R xs ys) (k : Nat) : All2 R (xs.drop k) (ys.drop k) := by
 induction h generalizing k with
 | nil => simp; exact .nil
 | cons h1 h2 ih => cases k with
  | zero => exact .cons h1 h2
  | succ k => exact ih k
theorem setRow_other (w : World) (g c : Nat) (arr : Array Value) (h : c ≠ g) : (w.setRow g arr).heap[c]? = w.heap[c]? := by
 simp only [World.setRow, Array.getElem?_modify]
 rw [if_neg (by omega)]
theorem setRow_this (w : World) (g : Nat) (cur arr : Array Value) (t : TypeId) (fr : Nat × Nat) (h : w.heap[g]? = some (.cells cur t fr)) : (w.setRow g arr).heap[g]? = some (.cells arr t fr) := by
 simp [World.setRow, Array.getElem?_modify, h]
theorem storeVar_run (hT : TabOk P T) {t : TypeId} {ti : TI} (hi : T t = some ti) {b o : Nat} {cur : Array Value} {ty : TypeId} (hb : w.heap[b]? = some (.cells cur ty (0, 0))) {y : Value} (hl : y.cells.size = ti.ty.lv) (ho : o + y.cells.size ≤ cur.size)
  (h1 : ∀ v ∈ y.cells.toList, v.oneCell' = true) :
  (storeVar t ⟨b, o, none⟩ y).run P w = .ok () (w.setRow b (cur.toList.take o ++ y.cells.toList ++ cur.toList.drop (o + y.cells.size)).toArray) := by
 have := run_storeCells_at P b o ty y.cells.toList 0 cur w hb (by simpa using ho) h1
 simp only [Nat.add_zero, Array.length_toList] at this
 simp only [storeVar, Sem.run_bind, hT.size hi, Result.andThen_ok, hl, ne_eq, not_true_eq_false, if_false]
 rw [hl] at this
 exact this
theorem All2.all_one {l : List Lf} {ys : List Value} (h : All2 (LR w E μ H) l ys) : ∀ v ∈ ys, v.oneCell' = true := by
 induction h with
 | nil => simp
 | cons h1 h2 ih =>
  intro v hv
  rcases List.mem_cons.1 hv with rfl | hv
  ·exact LR_one h1
  ·exact ih v hv
theorem VO.store {o : Oper} {φ : Prop} {H' : Heap} (hT : TabOk P T) (h : evStore T s o = some (φ, H')) (hφ : φ) (k : VO P n w0 E0 ops Q rest ⟨s.sl, H'⟩) : VO P n w0 E0 ops Q (o :: rest) s := by
 intro a w hs
 obtain ⟨E, μ, hA⟩ := hs.at
 unfold evStore at h
 split at h
 ·rename_i t ad x hg hd ho
  split at h
  ·rename_i ti id ver i j v hi had hx
   split at h
   ·rename_i cs hcs
    cases hb : Nat.beq cs.length ti.ty.lv with
    | false => rw [hb] at h; simp at h
    | true =>
     rw [hb] at h
     simp only [cond_true] at h
     have hlen : cs.length = ti.ty.lv := Nat.eq_of_beq_eq_true hb
     have hy := cellsOf_run hcs (hA.opnd hx)
     have hsz : (a.eval x).cells.size = ti.ty.lv := by rw [← hlen, hy.length, Array.length_toList]
     have hp := (hA.opnd had).2
     have fin : ∀ (b q : Nat) (cur : Array Value) (ty : TypeId), a.eval ad = .pointer (some ⟨b, q, none⟩) → w.heap[b]? = some (.cells cur ty (0, 0)) → q + cs.length ≤ cur.size →
       (∀ w', w' = w.setRow b (cur.toList.take q ++ (a.eval x).cells.toList ++ cur.toList.drop (q + (a.eval x).cells.size)).toArray → ∃ E' μ', MR w' E' μ' H' 0 ∧ Ext w E w' E' ∧ (∀ c, E.S c → E'.S c ∧ w'.heap[c]? = w.heap[c]?) ∧ KpH μ μ' s.H H') →
       wpList P ops (fun e a' w' => ∃ s', SRel n w0 E0 s' a' w' ∧ Q e s') (o :: rest) a w := by
      intro b q cur ty e1 e2 e3 e4
      obtain ⟨E', μ', m1, m2, m3, m4⟩ := e4 _ rfl
      refine wpList_skip (w' := w.setRow b (cur.toList.take q ++ (a.eval x).cells.toList ++ cur.toList.drop (q + (a.eval x).cells.size)).toArray) hg ?_ ?_
      ·simp only [execOp, ho, Instr.storeAt, e1, Instr.sureAddr, Sem.run_bind, Sem.run_pure, Result.andThen_ok]
       rw [storeVar_run hT hi e2 hsz (by rw [hsz, ← hlen]; exact e3) hy.all_one]
       rfl
      ·rw [hd]
       exact k _ _ (hA.unput m1 m2 m3 m4).rel
     split at h
     ·rename_i l tid hH
      cases hbl : Nat.ble (j + cs.length) l.length with
      | false => rw [hbl] at h; simp at h
      | true =>
       rw [hbl] at h
       simp only [cond_true, Option.some.injEq, Prod.mk.injEq] at h
       obtain ⟨rfl, rfl⟩ := h
       have hle : j + cs.length ≤ l.length := by simpa using hbl
       rw [hH] at hp
       obtain ⟨b, h1, h2⟩ := hp
       obtain ⟨b', arr, f1, f2, f3, f4⟩ := hA.mr.blks id _ hH
       rw [h1] at f1
       simp only [Value.pointer.injEq, Option.some.injEq, Addr.mk.injEq, and_true] at f1
       subst f1
       refine fin b j arr tid h2 f3 (by have := f4.length; simp at this; omega) ?_
       rintro w' rfl
       have e : (a.eval x).cells.size = cs.length := by rw [hsz, hlen]
       generalize hnew : (arr.toList.take j ++ (a.eval x).cells.toList ++ arr.toList.drop (j + (a.eval x).cells.size)).toArray = arr'
       have hlist : arr'.toList = arr.toList.take j ++ (a.eval x).cells.toList ++ arr.toList.drop (j + cs.length) := by rw [← hnew, e]
       have hother := fun c (hc : c ≠ b) => setRow_other w b c arr' hc
       have hS : ∀ c, E.S c → E.S c ∧ (w.setRow b arr').heap[c]? = w.heap[c]? := fun c hc => ⟨hc, hother c (fun e => by subst e; have := hA.mr.apart c hc; rw [f2] at this; simp at this)⟩
       obtain ⟨m1, m2, m3, m4⟩ := MR.wrote (blk' := .box (spl l j cs) tid) hA.mr hH f2 f3 (by simp [Kp]) hother (by simp) ⟨rfl, rfl, rfl⟩ (by
        refine ⟨b, _, h1, f2, setRow_this w b arr _ tid _ f3, ?_⟩
        have hkeep := LR.keep (μ := μ) (μ' := μ) hS (KpH.set (b' := some (.box (spl l j cs) tid)) hH (by simp [Kp]))
        rw [hlist]
        exact (((f4.take j).append hy).append (f4.drop (j + cs.length))).imp hkeep)
       exact ⟨E, μ, m1, m2, m3, m4⟩
     ·rename_i cur t' xs m hH
      cases hc : (Nat.beq ver cur && Nat.ble (j + cs.length) t'.lv) with
      | false => rw [hc] at h; simp at h
      | true =>
       rw [hc] at h
       simp only [cond_true] at h
       simp only [Bool.and_eq_true] at hc
       obtain ⟨hv, hle⟩ := hc
       have hle : j + cs.length ≤ t'.lv := by simpa using hle
       split at h
       ·rename_i y hset
        simp only [Option.some.injEq, Prod.mk.injEq] at h
        obtain ⟨rfl, rfl⟩ := h
        rw [hH] at hp
        obtain ⟨b, nn, cc, h1, h2⟩ := hp.2 (Nat.eq_of_beq_eq_true hv)
        obtain ⟨hm, f0⟩ := hA.mr.arr hH
        rcases f0 with ⟨rfl, _⟩ | ⟨b', c, arr, ty, f1, f2, f3, f4, f5, f6⟩
        ·simp at hφ
        ·rw [h1] at f1
         simp only [Value.slice.injEq, Option.some.injEq, Addr.mk.injEq, and_true] at f1
         obtain ⟨rfl, rfl, rfl⟩ := f1
         have hmul : (i + 1) * t'.lv ≤ cc * t'.lv := Nat.mul_le_mul_right _ (by omega)
         have hmul' : (i + 1) * t'.lv = i * t'.lv + t'.lv := by rw [Nat.add_mul, Nat.one_mul]
         have e : (a.eval x).cells.size = cs.length := by rw [hsz, hlen]
         refine fin b (i * t'.lv + j) arr ty h2 f3 (by rw [f4]; omega) ?_
         rintro w' rfl
         generalize hnew : (arr.toList.take (i * t'.lv + j) ++ (a.eval x).cells.toList ++ arr.toList.drop (i * t'.lv + j + (a.eval x).cells.size)).toArray = arr'
         have hother := fun c (hc : c ≠ b) => setRow_other w b c arr' hc
         have hthis := setRow_this w b arr arr' ty _ f3
         have hS : ∀ c, E.S c → E.S c ∧ (w.setRow b arr').heap[c]? = w.heap[c]? := fun c hc => ⟨hc, hother c (fun e => by subst e; have := hA.mr.apart c hc; rw [f5] at this; simp at this)⟩
         have hcell : ∀ q, cellAt (w.setRow b arr') b q = if i * t'.lv + j ≤ q ∧ q < i * t'.lv + j + (a.eval x).cells.toList.length then (a.eval x).cells.toList[q - (i * t'.lv + j)]? else cellAt w b q := by
          intro q
          have ha : arr.size = cc * t'.lv := f4
          simp only [cellAt, World.cell?, hthis, f3, Option.isSome_none, Bool.false_eq_true, if_false]
          rw [← hnew]
          simp only [List.getElem?_toArray, List.append_assoc, List.getElem?_append, List.length_take, Array.length_toList, List.length_append]
          rw [Nat.min_eq_left (by omega)]
          by_cases q1 : q < i * t'.lv + j
          ·rw [if_pos q1, if_neg (by omega), List.getElem?_take, if_pos q1]; simp
          ·rw [if_neg q1]
           by_cases q2 : q - (i * t'.lv + j) < (a.eval x).cells.size
           ·rw [if_pos q2, if_pos (by omega)]
           ·rw [if_neg q2, if_neg (by omega), List.getElem?_drop]
            simp only [Array.getElem?_toList]
            congr 1
            omega
         have hrep : ∀ (i' : Nat) (hi' : i' < xs.length), Rep (w.setRow b arr') E (.id id) t' xs[i'] m.nest (fun q => .inside b (i' * t'.lv + q)) (fun q => cellAt w b (i' * t'.lv + q)) := by
          intro i' hi'
          refine Rep.move (fun q => ∃ b k, q = Pos.inside b k) (fun q => q) hS (fun c q hq hc => ?_) t' _ m.nest _ _ _ _ (fun _ => ⟨fun q => ⟨_, _, rfl⟩, fun _ => rfl⟩) (fun q v _ hv => hv) (f6 i' hi')
          obtain ⟨b1, k1, rfl⟩ := hq
          refine ⟨hc, hother c (fun e => ?_), fun k => ⟨⟨_, _, rfl⟩, rfl⟩⟩
          subst e
          rw [f5] at hc
          simp at hc
         have hkeep := LR.keep (μ := μ) (μ' := μ) hS (KpH.set (H := s.H) (b' := some (.arr cur t' (xs.set i y) m)) hH (by simp [Kp]))
         obtain ⟨m1, m2, m3, m4⟩ := MR.wrote (blk' := .arr cur t' (xs.set i y) m) hA.mr hH f5 f3 (by simp [Kp]) hother (by simp) ⟨rfl, rfl, rfl⟩ (by
          refine ⟨hm, _, rfl, .inr ⟨hm, .inr ⟨b, cc, arr', ty, by simpa [at0] using h1, by simpa using f2, hthis, ?_, f5, ?_⟩⟩⟩
          ·have ha : arr.size = cc * t'.lv := f4
           rw [← hnew]
           simp only [List.size_toArray, List.length_append, List.length_take, List.length_drop, Array.length_toList]
           omega
          ·intro i' hi'
           have hil : i' < xs.length := by simpa using hi'
           by_cases e' : i' = i
           ·subst e'
            have hx0 : xs.getD i' t'.dflt = xs[i'] := by simp [List.getD, List.getElem?_eq_getElem hil]
            rw [hx0] at hset
            have := setLfs_rep cs _ _ j y _ hset (hy.imp hkeep) (hrep i' hil)
            simp only [List.getElem_set_self]
            refine Rep.move (fun _ => True) (fun q => q) (fun c hc => ⟨hc, rfl⟩) (fun c q _ hq => ⟨hq, rfl, fun k => ⟨trivial, rfl⟩⟩) t' y m.nest _ _ _ _ (fun _ => ⟨fun _ => trivial, fun _ => rfl⟩) (fun q v hq hv => ?_) this
            rw [hcell]
            by_cases q1 : j ≤ q ∧ q < j + (a.eval x).cells.toList.length
            ·rw [if_pos q1] at hv
             rw [if_pos (by omega), show i' * t'.lv + q - (i' * t'.lv + j) = q - j by omega]
             exact hv
            ·rw [if_neg q1] at hv
             rw [if_neg (by omega)]
             exact hv
           ·simp only [List.getElem_set_ne (Ne.symm e')]
            refine Rep.move (fun _ => True) (fun q => q) (fun c hc => ⟨hc, rfl⟩) (fun c q _ hq => ⟨hq, rfl, fun k => ⟨trivial, rfl⟩⟩) t' _ m.nest _ _ _ _ (fun _ => ⟨fun _ => trivial, fun _ => rfl⟩) (fun q v hq hv => ?_) (hrep i' hil)
            rw [hcell, if_neg]
            ·exact hv
            ·have hl : (a.eval x).cells.toList.length = cs.length := by rw [Array.length_toList, e]
             rcases Nat.lt_or_ge i' i with hlt | hge
             ·have : (i' + 1) * t'.lv ≤ i * t'.lv := Nat.mul_le_mul_right _ hlt
              rw [Nat.add_mul, Nat.one_mul] at this
              omega
             ·have : (i + 1) * t'.lv ≤ i' * t'.lv := Nat.mul_le_mul_right _ (by omega)
              omega)
         exact ⟨E, μ, m1, m2, m3, m4⟩
       ·simp at h
     ·simp at h
   ·simp at h
  ·simp at h
 ·simp at h
end
end Go.Proofs.YtfegppjofphpfaaDoor.Vc
namespace Go.Proofs.YtfegppjofphpfaaDoor.Vc
open Go Go.RowKit
set_option linter.unusedVariables false
set_option linter.unusedSimpArgs false
def ofLfs (m : Md) : (t : Ty) → List Lf → Option (t.den × List Lf)
 | .int k, l :: r => (setInt k 0 l).map fun x => (x, r)
 | .bool, l :: r => (setBool 0 l).map fun x => (x, r)
 | .str, l :: r => (setStr 0 l).map fun x => (x, r)
 | .sl t, l :: r => (setSl t 0 l m).map fun x => (x, r)
 | .pair a b, l => match ofLfs m a l with
  | some (x, r) => match ofLfs m b r with
   | some (y, r') => some ((x, y), r')
   | none => none
  | none => none
 | _, [] => none
def Ty.flat : Ty → Bool
 | .sl _ => false
 | .pair a b => a.flat && b.flat
 | _ => true
def mdOf (t : Ty) : Md := cond t.flat .dp .tp
theorem mdOf_ne (t : Ty) : mdOf t ≠ .fz := by
 unfold mdOf
 cases t.flat <;> simp
def lim (t : Ty) : Nat := 140737488355328 / (24 * t.lv)
section
variable {P : Program} {T : Tab} {n : Nat} {w0 : World} {E0 : Env0} {s : St} {ops : Array Oper} {Q : Exit → St → Prop} {rest : List Oper}
variable {w w' : World} {E E' : Env} {μ μ' : Nat → Value} {H H' : Heap}
theorem Rep.flat {r r' : Root} {m m' : Md} : ∀ {t : Ty} {x : t.den} {p p' : Nat → Pos} {g : Nat → Option Value}, t.flat = true → Rep w E r t x m p g → Rep w' E' r' t x m' p' g
 | .int _, _, _, _, _, _, h => h
 | .bool, _, _, _, _, _, h => h
 | .str, _, _, _, _, _, h => h
 | .sl _, _, _, _, _, hf, _ => by simp [Ty.flat] at hf
 | .pair a b, _, _, _, _, hf, h => by
  simp only [Ty.flat, Bool.and_eq_true] at hf
  exact ⟨Rep.flat hf.1 h.1, Rep.flat hf.2 h.2⟩
theorem setSl_rep {r : Root} {t : Ty} {l : Lf} {m : Md} {x : List t.den} {y : Value} {p : Nat → Pos} {g : Nat → Option Value} (h : setSl t 0 l m = some x) (hl : LR w E μ H l y) (hg : g 0 = some y) : Rep w E r (.sl t) x m p g := by
 have h0 : setLf (.sl t) ([] : List t.den) 0 l m = some x := h
 have h1 : Rep w E r (.sl t) ([] : List t.den) m p (at0 (.slice none 0 0)) := by
  refine ⟨_, rfl, ?_⟩
  by_cases hm : m = .fz
  ·exact .inl ⟨hm, .inl ⟨rfl, none, 0, rfl⟩⟩
  ·exact .inr ⟨hm, .inl ⟨rfl, none, rfl⟩⟩
 have h2 := setLf_rep (.sl t) [] 0 l m x p _ y h0 hl h1
 refine Rep.move (fun _ => True) (fun q => q) (fun c hc => ⟨hc, rfl⟩) (fun c q _ hq => ⟨hq, rfl, fun k => ⟨trivial, rfl⟩⟩) (.sl t) x m _ _ _ _ (fun _ => ⟨fun _ => trivial, fun _ => rfl⟩) (fun q v hq hv => ?_) h2
 have : q = 0 := by simp [Ty.lv] at hq; omega
 subst this
 simp only [if_true] at hv
 rw [hg]
 exact hv
theorem ofLfs_rep {r : Root} {m : Md} : ∀ {t : Ty} {l : List Lf} {x : t.den} {l' : List Lf} {ys : List Value} {p : Nat → Pos}, ofLfs m t l = some (x, l') → All2 (LR w E μ H) l ys →
  Rep w E r t x m p (fun j => ys[j]?) ∧ All2 (LR w E μ H) l' (ys.drop t.lv) ∧ t.lv ≤ ys.length
 | .int k, a :: l, x, l', y :: ys, p, h, .cons h1 h2 => by
  simp only [ofLfs, Option.map_eq_some_iff, Prod.mk.injEq] at h
  obtain ⟨z, hz, rfl, rfl⟩ := h
  unfold setInt at hz
  split at hz
  ·split at hz
   ·rename_i hk
    subst hk
    simp only [Option.some.injEq] at hz
    subst hz
    refine ⟨?_, by simpa [Ty.lv] using h2, by simp [Ty.lv]⟩
    simp only [Rep, List.getElem?_cons_zero]
    rw [LR_int.1 h1]
   ·simp at hz
  ·simp at hz
 | .bool, a :: l, x, l', y :: ys, p, h, .cons h1 h2 => by
  simp only [ofLfs, Option.map_eq_some_iff, Prod.mk.injEq] at h
  obtain ⟨z, hz, rfl, rfl⟩ := h
  unfold setBool at hz
  split at hz
  ·simp only [Option.some.injEq] at hz
   subst hz
   refine ⟨?_, by simpa [Ty.lv] using h2, by simp [Ty.lv]⟩
   simp only [Rep, List.getElem?_cons_zero]
   rw [LR_bool.1 h1]
  ·simp at hz
 | .str, a :: l, x, l', y :: ys, p, h, .cons h1 h2 => by
  simp only [ofLfs, Option.map_eq_some_iff, Prod.mk.injEq] at h
  obtain ⟨z, hz, rfl, rfl⟩ := h
  unfold setStr at hz
  split at hz
  ·simp only [Option.some.injEq] at hz
   subst hz
   refine ⟨?_, by simpa [Ty.lv] using h2, by simp [Ty.lv]⟩
   simp only [Rep, List.getElem?_cons_zero]
   rw [LR_str.1 h1]
  ·simp at hz
 | .sl t, a :: l, x, l', y :: ys, p, h, .cons h1 h2 => by
  simp only [ofLfs, Option.map_eq_some_iff, Prod.mk.injEq] at h
  obtain ⟨z, hz, rfl, rfl⟩ := h
  exact ⟨setSl_rep hz h1 (by simp), by simpa [Ty.lv] using h2, by simp [Ty.lv]⟩
 | .pair t u, l, x, l', ys, p, h, hl => by
  simp only [ofLfs] at h
  split at h
  ·rename_i z r1 e1
   split at h
   ·rename_i z2 r2 e2
    simp only [Option.some.injEq, Prod.mk.injEq] at h
    obtain ⟨rfl, rfl⟩ := h
    obtain ⟨a1, a2, a3⟩ := ofLfs_rep (r := r) (p := p) e1 hl
    obtain ⟨b1, b2, b3⟩ := ofLfs_rep (r := r) (p := fun i => p (i + t.lv)) e2 a2
    refine ⟨⟨a1, ?_⟩, by simpa [Ty.lv, Nat.add_comm] using b2, by simp [Ty.lv] at b3 ⊢; omega⟩
    have e : (fun i => (fun j => ys[j]?) (i + t.lv)) = fun j => (ys.drop t.lv)[j]? := by
     funext i
     simp [Nat.add_comm]
    rw [e]
    exact b1
   ·simp at h
  ·simp at h
 | .int _, [], _, _, _, _, h, _ => by simp [ofLfs] at h
 | .bool, [], _, _, _, _, h, _ => by simp [ofLfs] at h
 | .str, [], _, _, _, _, h, _ => by simp [ofLfs] at h
 | .sl _, [], _, _, _, _, h, _ => by simp [ofLfs] at h
end
end Go.Proofs.YtfegppjofphpfaaDoor.Vc
namespace Go.Proofs.YtfegppjofphpfaaDoor.Vc
open Go Go.RowKit
set_option linter.unusedVariables false
set_option linter.unusedSimpArgs false
def litRows (sl : List (Nat × AV)) : Nat → List (Nat × Operand) → Option (List (List Lf))
 | _, [] => some []
 | i, (j, x) :: r => cond (Nat.beq i j) (match opnd sl x with
  | some v => match cellsOf v, litRows sl (i + 1) r with
   | some c, some l => some (c :: l)
   | _, _ => none
  | none => none) none
def rowsOf (m : Md) (e : Ty) : List (List Lf) → Option (List e.den)
 | [] => some []
 | c :: l => match ofLfs m e c, rowsOf m e l with
  | some (x, []), some r => some (x :: r)
  | _, _ => none
def elemTy (T : Tab) (t : TypeId) : Option (TI × Ty) := match T t with
 | some ti => match ti.ty with
  | .sl e => some (ti, e)
  | _ => none
 | none => none
def evLit (T : Tab) (n : Nat) (s : St) (o : Oper) : Option (Nat × AV × Heap) :=
 match o.guard, o.dst, o.op with
 | none, some d, .buildSlice t len parts => cond (Nat.blt d n) (match elemTy T t with
  | some (_, e) => match litRows s.sl 0 parts.toList with
   | some rows => match rowsOf (mdOf e).nest e rows with
    | some xs => cond (Nat.beq xs.length len && Nat.ble (len * e.lv) 16777216) (some (match xs with
     | [] => (d, .lf .nil, s.H)
     | _ => (d, .lf (.hd s.H.length 0 none), s.H ++ [some (.arr 0 e xs (mdOf e))]))) none
    | none => none
   | none => none
  | none => none) none
 | _, _, _ => none
def evMake (T : Tab) (n : Nat) (m : Md) (s : St) (o : Oper) : Option (Nat × Prop × AV × Heap) :=
 match o.guard, o.dst, o.op with
 | none, some d, .makeSlice t l c => cond (Nat.blt d n && decide (m ≠ .fz)) (match elemTy T t, opnd s.sl l, opnd s.sl c with
  | some (_, e), some (.lf (.v (.int _) k)), some (.lf (.v (.int _) k')) => some (d, (0 ≤ k ∧ k ≤ (lim e : Int) ∧ k' = k), .lf (.hd s.H.length 0 none), s.H ++ [some (.arr 0 e (List.replicate k.toNat e.dflt) m)])
  | _, _, _ => none) none
 | _, _, _ => none
section
variable {P : Program} {T : Tab} {n : Nat} {w0 : World} {E0 : Env0} {s : St} {ops : Array Oper} {Q : Exit → St → Prop} {rest : List Oper}
variable {w w' : World} {E E' : Env} {μ μ' : Nat → Value} {H H' : Heap}
theorem elemTy_under (hT : TabOk P T) {t : TypeId} {ti : TI} {e : Ty} (h : elemTy T t = some (ti, e)) : P.underlying t = some (.slice ti.elem) ∧ ∃ ej, T ti.elem = some ej ∧ ej.ty = e := by
 unfold elemTy at h
 split at h
 ·rename_i ti' hi
  split at h
  ·rename_i e' he
   simp only [Option.some.injEq, Prod.mk.injEq] at h
   obtain ⟨rfl, rfl⟩ := h
   exact hT.slice hi he
  ·simp at h
 ·simp at h
theorem arr_new {c : Nat} {cells : Array Value} {ty : TypeId} {e : Ty} {xs : List e.den} {m : Md} (hm : m ≠ .fz) (hc : xs.length ≤ c) (hsz : cells.size = c * e.lv)
  (hrep : ∀ i (h : i < xs.length), Rep (w.alloc (.cells cells ty)) (putκ E w.heap.size (.id H.length, .top)) (.id H.length) e xs[i] m.nest (fun j => .inside w.heap.size (i * e.lv + j)) (fun j => cells[i * e.lv + j]?)) (ver : Nat) :
  NB (w.alloc (.cells cells ty)) (putκ E w.heap.size (.id H.length, .top)) (putμ μ H.length (.slice (some ⟨w.heap.size, 0, none⟩) xs.length c)) (H ++ [some (.arr ver e xs m)]) H.length (.arr ver e xs m) := by
 refine ⟨hm, _, rfl, .inr ⟨hm, .inr ⟨w.heap.size, c, cells, ty, by simp [putμ], hc, by simp [alloc_heap], hsz, by simp [putκ], fun i hi => ?_⟩⟩⟩
 have e : (fun j => cellAt (w.alloc (.cells cells ty)) w.heap.size (i * e.lv + j)) = fun j => cells[i * e.lv + j]? := by
  funext j
  simp [cellAt, World.cell?, alloc_heap]
 rw [e]
 exact hrep i hi
theorem hd_new (w' : World) (E' : Env) (y : Value) (hy : y.oneCell' = true) (e : Ty) (xs : List e.den) (m : Md) : AR w' E' (putμ μ H.length y) (H ++ [some (.arr 0 e xs m)]) (.lf (.hd H.length 0 none)) y := by
 simp [AR, LR, putμ, HdR, hy]
theorem rowsOf_rep {m : Md} {e : Ty} : ∀ {rows : List (List Lf)} {xs : List e.den} {vs : List Value}, rowsOf m e rows = some xs → All2 (fun l v => All2 (LR w E μ H) l v.cells.toList) rows vs →
  xs.length = vs.length ∧ (∀ v ∈ vs, v.cells.size = e.lv) ∧ ∀ i (h : i < xs.length), ∃ v, vs[i]? = some v ∧ ∀ (r : Root) (p : Nat → Pos), Rep w E r e xs[i] m p (fun j => v.cells.toList[j]?)
 | [], xs, [], h, .nil => by
  simp only [rowsOf, Option.some.injEq] at h
  subst h
  exact ⟨rfl, by simp, fun i hi => by simp at hi⟩
 | c :: l, xs, v :: vs, h, .cons h1 h2 => by
  simp only [rowsOf] at h
  split at h
  ·rename_i x r e1 e2
   simp only [Option.some.injEq] at h
   subst h
   obtain ⟨a1, a2, a3⟩ := rowsOf_rep e2 h2
   have hsz : v.cells.size = e.lv := by
    obtain ⟨_, b2, b3⟩ := ofLfs_rep (r := .res 0) (p := fun _ => .top) e1 h1
    have := b2.length
    simp only [List.length_nil, List.length_drop, Array.length_toList] at this b3
    omega
   refine ⟨by simp [a1], fun u hu => ?_, fun i hi => ?_⟩
   ·rcases List.mem_cons.1 hu with rfl | hu
    ·exact hsz
    ·exact a2 u hu
   ·cases i with
    | zero => exact ⟨v, rfl, fun r p => (ofLfs_rep e1 h1).1⟩
    | succ i => exact a3 i (by simpa using hi)
  ·simp at h
theorem litRows_run {a : Act} (hA : At n w0 E0 s a w E μ) : ∀ {parts : List (Nat × Operand)} {i : Nat} {rows : List (List Lf)}, litRows s.sl i parts = some rows →
  parts.map (fun x => (x.1, a.eval x.2)) = ((parts.map fun x => a.eval x.2).zipIdx i).map (fun x => (x.2, x.1)) ∧ All2 (fun l v => All2 (LR w E μ s.H) l v.cells.toList) rows (parts.map fun x => a.eval x.2)
 | [], i, rows, h => by
  simp only [litRows, Option.some.injEq] at h
  subst h
  exact ⟨rfl, .nil⟩
 | (j, x) :: r, i, rows, h => by
  simp only [litRows] at h
  cases hb : Nat.beq i j with
  | false => rw [hb] at h; simp at h
  | true =>
   rw [hb] at h
   have hij : i = j := Nat.eq_of_beq_eq_true hb
   subst hij
   simp only [cond_true] at h
   split at h
   ·rename_i v hv
    split at h
    ·rename_i c l hc hl
     simp only [Option.some.injEq] at h
     subst h
     obtain ⟨a1, a2⟩ := litRows_run hA hl
     exact ⟨by simp [a1], .cons (cellsOf_run hc (hA.opnd hv)) a2⟩
    ·simp at h
   ·simp at h
theorem VO.lit {o : Oper} {d : Nat} {v : AV} {H' : Heap} (hT : TabOk P T) (h : evLit T n s o = some (d, v, H')) (k : VO P n w0 E0 ops Q rest ⟨(d, v) :: s.sl, H'⟩) : VO P n w0 E0 ops Q (o :: rest) s := by
 intro a w hs
 obtain ⟨E, μ, hA⟩ := hs.at
 unfold evLit at h
 split at h
 ·rename_i d' t len parts hg hd ho
  cases hb : Nat.blt d' n with
  | false => rw [hb] at h; simp at h
  | true =>
   rw [hb] at h
   simp only [cond_true] at h
   have hdn : d' < n := by simpa [Nat.blt_eq] using hb
   split at h
   ·rename_i ti e he
    split at h
    ·rename_i rows hrows
     split at h
     ·rename_i xs hxs
      cases hc : (Nat.beq xs.length len && Nat.ble (len * e.lv) 16777216) with
      | false => rw [hc] at h; simp at h
      | true =>
       rw [hc] at h
       simp only [Bool.and_eq_true] at hc
       obtain ⟨hlen, hsm⟩ := hc
       have hlen : xs.length = len := Nat.eq_of_beq_eq_true hlen
       have hsm : len * e.lv ≤ 16777216 := by simpa using hsm
       simp only [cond_true, Option.some.injEq] at h
       obtain ⟨f1, ej, f2, f3⟩ := elemTy_under hT he
       obtain ⟨info, g1, g2, g3, _⟩ := (hT _ _ f2).info
       rw [f3] at g2 g3
       obtain ⟨z, hz, hz'⟩ := Option.map_eq_some_iff.1 g3
       obtain ⟨l1, l2⟩ := litRows_run hA hrows
       obtain ⟨r1, r2, r3⟩ := rowsOf_rep hxs l2
       have hpos := lv_pos e
       generalize hvs : (parts.toList.map fun x => a.eval x.2) = vs at l1 l2 r1 r2 r3
       have hrun : (execOp a.eval o).run P w = .ok (.value (.slice (some ⟨w.heap.size, 0, none⟩) len len)) (w.alloc (.cells (vs.flatMap fun v => v.cells.toList).toArray ti.elem)) := by
        have hparts : (parts.map fun (i, x) => (i, a.eval x)).toList = (vs.zipIdx 0).map fun x => (x.2, x.1) := by
         rw [Array.toList_map, ← l1]
        by_cases h0 : len = 0
        ·have hv0 : vs = [] := List.length_eq_zero_iff.1 (by omega)
         subst hv0
         have hp0 : (parts.map fun (i, x) => (i, a.eval x)).toList = [] := by rw [hparts]; rfl
         have hp1 : (parts.map fun (i, x) => (i, a.eval x)) = #[] := by simpa using hp0
         have hp2 : parts = #[] := by simpa using hp1
         subst h0 hp2
         have e0 : (Array.range 0) = #[] := rfl
         simp [execOp, ho, Instr.buildSlice, run_underlying f1, run_sizeOf' g1, g2, Instr.fill, newRow, e0]
        ·have := run_buildSlice w t ti.elem len (parts.map fun (i, x) => (i, a.eval x)) (vs.flatMap fun v => v.cells.toList).toArray info z f1 g1 hz (by rw [g2]; omega) (by rw [g2]; have := Nat.mul_ne_zero h0 (Nat.ne_of_gt hpos); exact this) (by
          rw [hparts, g2]
          refine Great.fill_whole hpos vs _ r2 ?_
          rw [← r1, hlen]
          simp)
         simp only [execOp, ho, Sem.run_bind, this, Result.andThen_ok, Sem.run_pure]
       have hcells : (vs.flatMap fun v => v.cells.toList).toArray.size = len * e.lv := by
        rw [List.size_toArray]
        have : ∀ vs : List Value, (∀ v ∈ vs, v.cells.size = e.lv) → (vs.flatMap fun v => v.cells.toList).length = vs.length * e.lv := by
         intro vs hv
         induction vs with
         | nil => simp
         | cons v vs ih => rw [List.flatMap_cons, List.length_append, ih (fun u hu => hv u (List.mem_cons_of_mem _ hu)), Array.length_toList, hv v List.mem_cons_self, List.length_cons, Nat.add_mul]; omega
        rw [this vs r2, ← r1, hlen]
       refine wpList_value hg hrun ?_
       rw [hd]
       cases hx : xs with
       | nil =>
        rw [hx] at h
        simp only [Prod.mk.injEq] at h
        obtain ⟨rfl, rfl, rfl⟩ := h
        rw [hx] at hlen
        simp only [List.length_nil] at hlen
        subst hlen
        have hS : ∀ b, E.S b → E.S b ∧ (w.alloc (.cells (vs.flatMap fun v => v.cells.toList).toArray ti.elem)).heap[b]? = w.heap[b]? := fun b hb => ⟨hb, alloc_old w _ (hA.mr.ltS b hb)⟩
        have hM : MR (w.alloc (.cells (vs.flatMap fun v => v.cells.toList).toArray ti.elem)) E μ s.H 0 := MR.step hA.mr hA.mr.apart (fun b hb => by have := hA.mr.ltS b hb; simp [alloc_heap]; omega) (fun b hb => by have := hA.mr.ltκ b hb; simp [alloc_heap]; omega) hA.mr.roots hS (KpH.refl μ s.H)
         (fun id blk hi => .inl ⟨hi, rfl, fun b q hq => ⟨hq, alloc_old w _ (hA.mr.ltκ b (by simp [hq]))⟩⟩)
        refine k _ _ (hA.put hdn hM ⟨rfl, rfl, rfl, by simp [alloc_heap], fun b hb _ => alloc_old w _ hb, fun b h => h, fun b h => .inl h, fun b h => .inl h⟩ hS (KpH.refl μ s.H) ?_).rel
        exact ⟨_, rfl⟩
       | cons x0 xs0 =>
        rw [hx] at h
        simp only [Prod.mk.injEq] at h
        obtain ⟨rfl, rfl, rfl⟩ := h
        rw [← hx] at k
        have hNB := arr_new (w := w) (E := E) (μ := μ) (H := s.H) (c := len) (cells := (vs.flatMap fun v => v.cells.toList).toArray) (ty := ti.elem) (xs := xs) (m := mdOf e) (mdOf_ne e) (by omega) hcells (fun i hi => by
         obtain ⟨v, hv, hr⟩ := r3 i hi
         have hr := hr (.id s.H.length) (fun j => .inside w.heap.size (i * e.lv + j))
         have hgg : ∀ j y, j < e.lv → v.cells.toList[j]? = some y → (vs.flatMap fun v => v.cells.toList).toArray[i * e.lv + j]? = some y := by
          intro j y hj hy
          rw [List.getElem?_toArray, Great.flat_get hpos vs r2, Nat.mul_comm, Nat.mul_add_div hpos, Nat.div_eq_of_lt hj, Nat.add_zero, hv, Nat.mul_add_mod, Nat.mod_eq_of_lt hj]
          simpa using hy
         have hS : ∀ b, E.S b → (putκ E w.heap.size (.id s.H.length, .top)).S b ∧ (w.alloc (.cells (vs.flatMap fun v => v.cells.toList).toArray ti.elem)).heap[b]? = w.heap[b]? := fun b hb => ⟨hb, alloc_old w _ (hA.mr.ltS b hb)⟩
         cases hf : e.flat with
         | true =>
          have hr' : Rep w E (.id s.H.length) e xs[i] .fz (fun j => .inside w.heap.size (i * e.lv + j)) (fun j => v.cells.toList[j]?) := Rep.flat hf hr
          exact Rep.flat (m := .fz) hf (Rep.fz hS e _ (p' := fun _ => .top) (r' := .res 0) hgg hr')
         | false =>
          have hn : (mdOf e).nest = .fz := by simp [mdOf, hf, Md.nest]
          rw [hn] at hr ⊢
          exact Rep.fz hS e _ hgg hr) 0
        obtain ⟨m1, m2, m3⟩ := MR.alloc hA.mr _ ti.elem _ _ hNB
        rw [hlen] at m1
        refine k _ _ (hA.put hdn m1 m2 m3 (KpH.push s.H _ _) ?_).rel
        exact hd_new _ _ _ rfl e xs (mdOf e)
     ·simp at h
    ·simp at h
   ·simp at h
 ·simp at h
theorem rep_zeros {r : Root} {m : Md} : ∀ (e : Ty) (p : Nat → Pos) (g : Nat → Option Value), (∀ j v, e.zeros[j]? = some v → g j = some v) → Rep w E r e e.dflt m p g
 | .int k, p, g, h => h 0 _ rfl
 | .bool, p, g, h => h 0 _ rfl
 | .str, p, g, h => h 0 _ rfl
 | .sl t, p, g, h => by
  refine ⟨.slice none 0 0, h 0 _ rfl, ?_⟩
  by_cases hm : m = .fz
  ·exact .inl ⟨hm, .inl ⟨rfl, none, 0, rfl⟩⟩
  ·exact .inr ⟨hm, .inl ⟨rfl, none, rfl⟩⟩
 | .pair a b, p, g, h => by
  have hl : ∀ t : Ty, t.zeros.length = t.lv := by
   intro t
   induction t with
   | pair a b iha ihb => simp [Ty.zeros, Ty.lv, iha, ihb]
   | _ => rfl
  refine ⟨rep_zeros a p g (fun j v hv => h j v ?_), rep_zeros b _ _ (fun j v hv => h _ v ?_)⟩
  ·have hlt := (List.getElem?_eq_some_iff.1 hv).1
   simp only [Ty.zeros, List.getElem?_append_left hlt]
   exact hv
  ·simp only [Ty.zeros]
   rw [List.getElem?_append_right (by rw [hl]; omega), hl, Nat.add_sub_cancel]
   exact hv
theorem zeros_length : ∀ e : Ty, e.zeros.length = e.lv
 | .int _ => rfl
 | .bool => rfl
 | .str => rfl
 | .sl _ => rfl
 | .pair a b => by simp [Ty.zeros, Ty.lv, zeros_length a, zeros_length b]
theorem make_step (m : Md) {o : Oper} {t : TypeId} {l c : Operand} {a : Act} (hT : TabOk P T) (hA : At n w0 E0 s a w E μ) (ho : o.op = .makeSlice t l c) (hg : o.guard = none) {d : Nat} (hd : o.dst = some d) (hdn : d < n) (hm : m ≠ .fz)
  {ti : TI} {e : Ty} (he : elemTy T t = some (ti, e)) {kk kk' : IntKind} (q q' : Int) (el : a.eval l = .int kk q) (ec : a.eval c = .int kk' q') (h0 : 0 ≤ q) (h1 : q ≤ (lim e : Int)) (h2 : q' = q)
  (k : VO P n w0 E0 ops Q rest ⟨(d, .lf (.hd s.H.length 0 none)) :: s.sl, s.H ++ [some (.arr 0 e (List.replicate q.toNat e.dflt) m)]⟩) :
  wpList P ops (fun e a' w' => ∃ s', SRel n w0 E0 s' a' w' ∧ Q e s') (o :: rest) a w := by
 subst h2
 obtain ⟨f1, ej, f2, f3⟩ := elemTy_under hT he
 obtain ⟨info, g1, g2, g3, _, g5, g6⟩ := (hT _ _ f2).info
 rw [f3] at g2 g3 g6
 obtain ⟨z, hz, hz'⟩ := Option.map_eq_some_iff.1 g3
 have hpos := lv_pos e
 have hlim : q'.toNat * info.bytes ≤ 140737488355328 := by
  have a1 : q'.toNat ≤ lim e := by omega
  have a2 : lim e * (24 * e.lv) ≤ 140737488355328 := Nat.div_mul_le_self _ _
  have a3 : q'.toNat * info.bytes ≤ lim e * (24 * e.lv) := Nat.mul_le_mul a1 (by omega)
  omega
 have hlim0 : lim e ≤ 140737488355328 := Nat.div_le_self _ _
 have hrun2 := run_make (P := P) w t ti.elem info z f1 g1 hz kk kk' q' q' h0 (by omega) (by
  have : (info.bytes : Int) * q' = ((q'.toNat * info.bytes : Nat) : Int) := by
   rw [Int.natCast_mul, Int.toNat_of_nonneg h0, Int.mul_comm]
  rw [this]
  omega) (by omega)
 refine wpList_value (y := .slice (some ⟨w.heap.size, 0, none⟩) q'.toNat q'.toNat) (w' := w.alloc (.cells (madeCells z.cells (q'.toNat * info.size)) ti.elem)) hg ?_ ?_
 ·simp only [execOp, ho, el, ec, Sem.run_bind, hrun2, Result.andThen_ok, Sem.run_pure]
 ·rw [hd]
  have hxl : (List.replicate q'.toNat e.dflt).length = q'.toNat := by simp
  have hNB := arr_new (w := w) (E := E) (μ := μ) (H := s.H) (c := q'.toNat) (cells := madeCells z.cells (q'.toNat * info.size)) (ty := ti.elem) (xs := List.replicate q'.toNat e.dflt) (m := m) hm (by rw [hxl]; exact Nat.le_refl _)
   (by rw [size_madeCells, g2]) (fun i hi => by
    simp only [List.getElem_replicate]
    refine rep_zeros e _ _ (fun j v hv => ?_)
    have hj : j < e.lv := by rw [← zeros_length e]; exact (List.getElem?_eq_some_iff.1 hv).1
    rw [hxl] at hi
    have hzs : z.cells.size = e.lv := by rw [← Array.length_toList, hz', zeros_length]
    have hlt : i * e.lv + j < q'.toNat * info.size := by
     rw [g2]
     have : (i + 1) * e.lv ≤ q'.toNat * e.lv := Nat.mul_le_mul_right _ hi
     rw [Nat.add_mul, Nat.one_mul] at this
     omega
    have hmod : (i * e.lv + j) % e.lv = j := by rw [Nat.mul_comm, Nat.mul_add_mod, Nat.mod_eq_of_lt hj]
    simp only [madeCells, Array.getElem?_map, Array.getElem?_range, hlt, if_true, Option.map_some, hzs, hmod]
    rw [← hz'] at hv
    simp only [Array.getElem?_toList] at hv
    rw [getElem!_pos z.cells j (by omega)]
    rw [Array.getElem?_eq_getElem (by omega)] at hv
    exact hv) 0
  rw [hxl] at hNB
  obtain ⟨m1, m2, m3⟩ := MR.alloc hA.mr _ ti.elem _ _ hNB
  exact k _ _ (hA.put hdn m1 m2 m3 (KpH.push s.H _ _) (hd_new _ _ _ rfl e _ m)).rel
theorem VO.make (m : Md) {o : Oper} {d : Nat} {φ : Prop} {v : AV} {H' : Heap} (hT : TabOk P T) (h : evMake T n m s o = some (d, φ, v, H')) (hφ : φ) (k : VO P n w0 E0 ops Q rest ⟨(d, v) :: s.sl, H'⟩) : VO P n w0 E0 ops Q (o :: rest) s := by
 intro a w hs
 obtain ⟨E, μ, hA⟩ := hs.at
 unfold evMake at h
 split at h
 ·rename_i d' t l c hg hd ho
  cases hb : (Nat.blt d' n && decide (m ≠ .fz)) with
  | false => rw [hb] at h; simp at h
  | true =>
   rw [hb] at h
   simp only [Bool.and_eq_true] at hb
   obtain ⟨hb, hm⟩ := hb
   simp only [cond_true] at h
   split at h
   ·rename_i ti e kk q kk' q' he hl hc
    simp only [Option.some.injEq, Prod.mk.injEq] at h
    obtain ⟨rfl, rfl, rfl, rfl⟩ := h
    have el := hA.opnd hl
    have ec := hA.opnd hc
    simp only [AR, LR_int] at el ec
    exact make_step m hT hA ho hg hd (by simpa [Nat.blt_eq] using hb) (by simpa using hm) he q q' el ec hφ.1 hφ.2.1 hφ.2.2 k
   ·simp at h
 ·simp at h
end
end Go.Proofs.YtfegppjofphpfaaDoor.Vc
namespace Go.Proofs.YtfegppjofphpfaaDoor.Vc
open Go Go.RowKit
set_option linter.unusedVariables false
set_option linter.unusedSimpArgs false
def castL (e' e : Ty) (ys : List e'.den) : Option (List e.den) := if h : e' = e then some (cast (congrArg (fun t => List (Ty.den t)) h) ys) else none
def srcRows (H : Heap) (e : Ty) : AV → Option (List e.den)
 | .lf (.v (.sl e') ys) => castL e' e ys
 | .lf .nil => some []
 | .lf (.hd id ver rng) => match H[id]? with
  | some (some (.arr cur e' ys m)) => cond (Nat.beq ver cur && (decide (m = .tp) || e'.flat)) (match rng with
   | none => castL e' e ys
   | some (o, l) => castL e' e ((ys.drop o).take l)) none
  | _ => none
 | _ => none
def evApp (T : Tab) (n : Nat) (s : St) (o : Oper) : Option (Nat × Prop × AV × Heap) :=
 match o.guard, o.dst, o.op with
 | none, some d, .call { callee := .builtin .append, args, argTypes } => cond (Nat.blt d n) (match args.toList, argTypes.toList with
  | [x, y], [t, t'] => cond (Nat.beq t t') (match elemTy T t, opnd s.sl x, opnd s.sl y with
   | some (_, e), some vx, some vy => match srcRows s.H e vy with
    | some ys => match vx with
     | .lf .nil => some (d, (ys.length ≤ lim e), .lf (.hd s.H.length 0 none), s.H ++ [some (.arr 0 e ys (mdOf e))])
     | .lf (.hd id ver none) => match s.H[id]? with
      | some (some (.arr cur e' xs m)) => cond (Nat.beq ver cur && (decide (m = .tp) || e'.flat)) (match castL e e' ys with
       | some zs => some (d, (xs.length + zs.length ≤ lim e'), .lf (.hd id (ver + 1) none), s.H.set id (some (.arr (ver + 1) e' (xs ++ zs) m)))
       | none => none) none
      | _ => none
     | .lf (.hd id ver (some (0, i))) => match s.H[id]? with
      | some (some (.arr cur e' xs m)) => cond (Nat.beq ver cur && (decide (m = .tp) || e'.flat)) (match castL e e' ys with
       | some zs => some (d, (i + zs.length ≤ xs.length ∧ xs.length ≤ lim e'), .lf (.hd id ver (some (0, i + zs.length))), s.H.set id (some (.arr ver e' (xs.take i ++ zs ++ xs.drop (i + zs.length)) m)))
       | none => none) none
      | _ => none
     | _ => none
    | none => none
   | _, _, _ => none) none
  | _, _ => none) none
 | _, _, _ => none
section
variable {P : Program} {T : Tab} {n : Nat} {w0 : World} {E0 : Env0} {s : St} {ops : Array Oper} {Q : Exit → St → Prop} {rest : List Oper}
variable {w w' : World} {E E' : Env} {μ μ' : Nat → Value} {H H' : Heap}
theorem castL_eq {e' e : Ty} {ys : List e'.den} {zs : List e.den} (h : castL e' e ys = some zs) : ∃ he : e' = e, zs = cast (congrArg (fun t => List (Ty.den t)) he) ys := by
 unfold castL at h
 split at h
 ·rename_i he
  simp only [Option.some.injEq] at h
  exact ⟨he, h.symm⟩
 ·simp at h
theorem src_cells {e : Ty} {b o len : Nat} {ys : List e.den} {m : Md} {r : Root} {p : Nat → Nat → Pos} (hl : ys.length = len)
  (h : ∀ i (hi : i < ys.length), Rep w E r e ys[i] m (p i) (fun j => cellAt w b (o + i * e.lv + j))) :
  ∃ news : List Value, news.length = len * e.lv ∧ (∀ (j : Nat) v, news[j]? = some v → w.cell? ((⟨b, o, none⟩ : Addr).add j) = some v) ∧ (∀ v ∈ news, v.oneCell' = true) ∧
   ∀ i (hi : i < ys.length), Rep w E r e ys[i] m (p i) (fun j => news[i * e.lv + j]?) := by
 have hpos := lv_pos e
 have hc : ∀ q, q < len * e.lv → ∃ v, cellAt w b (o + q) = some v ∧ v.oneCell' = true := by
  intro q hq
  have hi : q / e.lv < ys.length := by rw [hl]; exact (Nat.div_lt_iff_lt_mul hpos).2 hq
  have hj : q % e.lv < e.lv := Nat.mod_lt _ hpos
  obtain ⟨a, ha⟩ : ∃ a, (leafs e ys[q / e.lv] m)[q % e.lv]? = some a := ⟨(leafs e ys[q / e.lv] m)[q % e.lv]'(by rw [leafs_length]; exact hj), List.getElem?_eq_getElem _⟩
  obtain ⟨y, h1, h2⟩ := leafs_at (μ := fun _ => .nilFunc) (H := []) e _ m _ _ (h _ hi) _ a ha
  refine ⟨y, ?_, LR_one h2⟩
  rw [← h1]
  congr 1
  rw [Nat.add_assoc, Nat.mul_comm, Nat.div_add_mod]
 refine ⟨(List.range (len * e.lv)).map fun q => (cellAt w b (o + q)).getD undef, by simp, ?_, ?_, ?_⟩
 ·intro j v hv
  simp only [List.getElem?_map, List.getElem?_range, Option.map_eq_some_iff] at hv
  obtain ⟨q, hq, rfl⟩ := hv
  have hjq := List.getElem?_eq_some_iff.1 hq
  obtain ⟨hlt, he⟩ := hjq
  simp only [List.length_range] at hlt
  simp only [List.getElem_range] at he
  subst he
  obtain ⟨v, h1, _⟩ := hc j hlt
  rw [add_at]
  show cellAt w b (o + j) = _
  rw [h1]
  rfl
 ·intro v hv
  obtain ⟨q, hq, rfl⟩ := List.mem_map.1 hv
  obtain ⟨v, h1, h2⟩ := hc q (by simpa using hq)
  rw [h1]
  exact h2
 ·intro i hi
  refine Rep.move (fun _ => True) (fun q => q) (fun c hc => ⟨hc, rfl⟩) (fun c q _ hq => ⟨hq, rfl, fun k => ⟨trivial, rfl⟩⟩) e _ m _ _ _ _ (fun _ => ⟨fun _ => trivial, fun _ => rfl⟩) (fun j v hj hv => ?_) (h i hi)
  have hlt : i * e.lv + j < len * e.lv := by
   have : (i + 1) * e.lv ≤ len * e.lv := Nat.mul_le_mul_right _ (by omega)
   rw [Nat.add_mul, Nat.one_mul] at this
   omega
  have h3 : (List.range (len * e.lv))[i * e.lv + j]? = some (i * e.lv + j) := by simp [hlt]
  simp only [List.getElem?_map, h3, Option.map_some]
  rw [← Nat.add_assoc, hv]
  rfl
structure Src (w : World) (E : Env) (e : Ty) (ys : List e.den) (y : Value) : Prop where
 ex : ∃ (ad : Option Addr) (c : Nat) (news : List Value), y = .slice ad ys.length c ∧ news.length = ys.length * e.lv ∧ (ys ≠ [] → ∃ b, ad = some b ∧ ∀ (j : Nat) v, news[j]? = some v → w.cell? (b.add j) = some v) ∧ (∀ v ∈ news, v.oneCell' = true) ∧
  ∀ i (hi : i < ys.length), Rep w E (.res 0) e ys[i] .fz (fun _ => .top) (fun j => news[i * e.lv + j]?)
theorem Src.nil {e : Ty} {a : Option Addr} {c : Nat} : Src w E e [] (.slice a 0 c) := ⟨a, c, [], rfl, by simp, fun h => absurd rfl h, by simp, fun i hi => by simp at hi⟩
theorem srcRows_run {k : Nat} (hM : MR w E μ H k) {e : Ty} {v : AV} {ys : List e.den} (h : srcRows H e v = some ys) {y : Value} (hy : AR w E μ H v y) : Src w E e ys y := by
 unfold srcRows at h
 split at h
 ·rename_i e' zs
  obtain ⟨rfl, rfl⟩ := castL_eq h
  try simp only [cast_eq]
  obtain ⟨u, hu, hr⟩ := hy
  simp only [at0, if_true, Option.some.injEq] at hu
  subst hu
  rcases hr with ⟨_, ⟨rfl, a, c, rfl⟩ | ⟨b, o, c, rfl, h1, h2, h3⟩⟩ | ⟨hr, _⟩
  ·exact Src.nil
  ·obtain ⟨news, n1, n2, n3, n4⟩ := src_cells rfl h3
   exact ⟨_, c, news, rfl, n1, fun _ => ⟨_, rfl, n2⟩, n3, fun i hi => Rep.fz (fun c hc => ⟨hc, rfl⟩) e' _ (fun _ _ _ h => h) (n4 i hi)⟩
  ·exact absurd rfl hr
 ·simp only [Option.some.injEq] at h
  subst h
  obtain ⟨a, rfl⟩ := hy
  exact Src.nil
 ·rename_i id ver rng
  split at h
  ·rename_i cur e' zs m hH
   cases hc : (Nat.beq ver cur && (decide (m = .tp) || e'.flat)) with
   | false => rw [hc] at h; simp at h
   | true =>
    rw [hc] at h
    simp only [cond_true] at h
    simp only [Bool.and_eq_true, Bool.or_eq_true, decide_eq_true_eq] at hc
    obtain ⟨hv, hfl⟩ := hc
    simp only [AR, LR, hH] at hy
    have hy' := hy.2.2 (Nat.eq_of_beq_eq_true hv)
    obtain ⟨hm, ha⟩ := hM.arr hH
    have toFz : ∀ {x : e'.den} {p : Nat → Pos} {g : Nat → Option Value}, Rep w E (.id id) e' x m.nest p g → Rep w E (.res 0) e' x .fz (fun _ => .top) g := by
     intro x p g hr
     rcases hfl with rfl | hf
     ·exact Rep.fz (fun c hc => ⟨hc, rfl⟩) e' x (fun _ _ _ h => h) hr
     ·exact Rep.flat hf hr
    cases rng with
    | none =>
     obtain ⟨rfl, rfl⟩ := castL_eq h
     try simp only [cast_eq]
     simp only [HdR] at hy'
     subst hy'
     rcases ha with ⟨rfl, a, ha⟩ | ⟨b, c, arr, ty, g1, g2, g3, g4, g5, g6⟩
     ·rw [ha]; exact Src.nil
     ·rw [g1]
      obtain ⟨news, n1, n2, n3, n4⟩ := src_cells (o := 0) (p := fun _ _ => .top) (r := .res 0) (m := .fz) rfl (fun i hi => by simpa using toFz (g6 i hi))
      exact ⟨_, c, news, rfl, n1, fun _ => ⟨_, rfl, n2⟩, n3, n4⟩
    | some ol =>
     obtain ⟨o, l⟩ := ol
     obtain ⟨rfl, rfl⟩ := castL_eq h
     try simp only [cast_eq]
     replace hy' := HdR.old hy'
     rcases hy' with ⟨rfl, a, c, rfl⟩ | ⟨b, c, c', f1, rfl, f3, f4⟩
     ·have : (zs.drop o).take 0 = [] := by simp
      rw [this]
      exact Src.nil
     ·rcases ha with ⟨rfl, a, ha⟩ | ⟨b', c2, arr, ty, g1, g2, g3, g4, g5, g6⟩
      ·simp at f3
       obtain ⟨rfl, rfl⟩ := f3
       exact Src.nil
      ·rw [f1] at g1
       simp only [Value.slice.injEq, Option.some.injEq, Addr.mk.injEq, and_true] at g1
       obtain ⟨rfl, _, _⟩ := g1
       have hlen : ((zs.drop o).take l).length = l := by simp; omega
       obtain ⟨news, n1, n2, n3, n4⟩ := src_cells (w := w) (E := E) (e := e') (b := b) (o := o * e'.lv) (len := l) (ys := (zs.drop o).take l) (p := fun _ _ => .top) (r := .res 0) (m := .fz) hlen (fun i hi => by
        rw [hlen] at hi
        have hx : ((zs.drop o).take l)[i]'(by rw [hlen]; exact hi) = zs[o + i] := by simp
        rw [hx]
        have := toFz (g6 (o + i) (by omega))
        have e : (fun j => cellAt w b (o * e'.lv + i * e'.lv + j)) = fun j => cellAt w b ((o + i) * e'.lv + j) := by
         funext j
         rw [Nat.add_mul]
        rw [e]
        exact this)
       refine ⟨_, c', news, by rw [hlen], by rw [hlen]; exact n1, fun _ => ⟨_, rfl, n2⟩, n3, n4⟩
  ·simp at h
 ·simp at h
def AppRun (P : Program) (w : World) (t t' rt elem : TypeId) (bytes lv : Nat) (y : Value) (m : Nat) (news : List Value) : Prop :=
  ∀ (ty : TypeId) (base : Option Addr) (sLen sCap : Nat) (olds : List Value), olds.length = sLen * lv → sLen ≤ sCap →
    ((sCap = 0 ∧ olds = []) ∨ ∃ g cur, base = some ⟨g, 0, none⟩ ∧ w.heap[g]? = some (.cells cur ty (0, 0)) ∧ cur.size = sCap * lv ∧ ∀ (j : Nat) v, olds[j]? = some v → w.cell? ((⟨g, 0, none⟩ : Addr).add j) = some v) →
    (sLen + m) * bytes ≤ 140737488355328 → sLen + m ≤ 140737488355328 →
    ∃ y' w', (Builtin.append_ #[t, t'] rt #[.slice base sLen sCap, y]).run P w = .ok y' w' ∧
      ((m = 0 ∧ y' = .slice base sLen sCap ∧ w' = w) ∨
       (0 < m ∧ ∃ g cur, base = some ⟨g, 0, none⟩ ∧ w.heap[g]? = some (.cells cur ty (0, 0)) ∧ cur.size = sCap * lv ∧ sLen + m ≤ sCap ∧ y' = .slice base (sLen + m) sCap ∧ w' = w.setRow g (cur.toList.take (sLen * lv) ++ news ++ cur.toList.drop (sLen * lv + news.length)).toArray) ∨
       sCap < sLen + m ∧ ∃ cap' cells, sLen + m ≤ cap' ∧ y' = .slice (some ⟨w.heap.size, 0, none⟩) (sLen + m) cap' ∧ w' = w.drew.alloc (.cells cells elem) ∧ cells.size = cap' * lv ∧ (∃ tail, cells.toList = olds ++ news ++ tail))
theorem append_run {t elem ty : TypeId} {ti : TI} {info : TypeInfo} {z : Value} {lv : Nat} (ht : P.underlying t = some (.slice elem)) (hi : P.info? elem = some info) (hz : info.zero = some z) (hsz : info.size = lv) (hzs : z.cells.size = lv) (hlv : 0 < lv)
    (rt : TypeId) {base : Option Addr} {sLen sCap : Nat} {olds : List Value} (hlo : olds.length = sLen * lv) (hcap : sLen ≤ sCap)
    (hbase : (sCap = 0 ∧ olds = []) ∨ ∃ g cur, base = some ⟨g, 0, none⟩ ∧ w.heap[g]? = some (.cells cur ty (0, 0)) ∧ cur.size = sCap * lv ∧ ∀ (j : Nat) v, olds[j]? = some v → w.cell? ((⟨g, 0, none⟩ : Addr).add j) = some v)
    {ad : Option Addr} {m c : Nat} {news : List Value} (hl : news.length = m * lv) (hnews : 0 < m → ∃ b, ad = some b ∧ ∀ (j : Nat) v, news[j]? = some v → w.cell? (b.add j) = some v) (h1 : ∀ v ∈ news, v.oneCell' = true)
    (hfit : (sLen + m) * info.bytes ≤ 140737488355328) (hsm : sLen + m ≤ 140737488355328) :
    ∃ y' w', (Builtin.append_ #[t, t] rt #[.slice base sLen sCap, .slice ad m c]).run P w = .ok y' w' ∧
      ((m = 0 ∧ y' = .slice base sLen sCap ∧ w' = w) ∨
       (0 < m ∧ ∃ g cur, base = some ⟨g, 0, none⟩ ∧ w.heap[g]? = some (.cells cur ty (0, 0)) ∧ cur.size = sCap * lv ∧ sLen + m ≤ sCap ∧ y' = .slice base (sLen + m) sCap ∧ w' = w.setRow g (cur.toList.take (sLen * lv) ++ news ++ cur.toList.drop (sLen * lv + news.length)).toArray) ∨
       sCap < sLen + m ∧ ∃ cap' cells, sLen + m ≤ cap' ∧ y' = .slice (some ⟨w.heap.size, 0, none⟩) (sLen + m) cap' ∧ w' = w.drew.alloc (.cells cells elem) ∧ cells.size = cap' * lv ∧ (∃ tail, cells.toList = olds ++ news ++ tail)) := by
  by_cases hm0 : m = 0
  · subst hm0
    refine ⟨.slice base sLen sCap, w, ?_, .inl ⟨rfl, rfl, rfl⟩⟩
    have hf : ∀ ad : Option Addr, (Builtin.firstCells info.size 0 (.slice ad 0 c)).run P w = .ok #[] w := by
      intro ad
      cases ad with
      | none => simp [Builtin.firstCells]
      | some b => simp [Builtin.firstCells, loadCells, loadCellsFrom]
    cases base with
    | none => simp [Builtin.append_, run_underlying ht, sizeOf, typeInfo, hi, Builtin.lenOf, hcap, hf]
    | some b => simp [Builtin.append_, run_underlying ht, sizeOf, typeInfo, hi, Builtin.lenOf, hcap, hf, storeCells]
  · obtain ⟨b, rfl, hb⟩ := hnews (by omega)
    by_cases hroom : sLen + m ≤ sCap
    · rcases hbase with ⟨h0, _⟩ | ⟨g, cur, rfl, hg, hcur, ho⟩
      · omega
      · have hmul : (sLen + m) * lv ≤ sCap * lv := Nat.mul_le_mul_right _ hroom
        rw [Nat.add_mul] at hmul
        have hst := run_storeCells_at P g (sLen * lv) ty news 0 cur w hg (by omega) h1
        simp only [Nat.add_zero] at hst
        have hf := run_firstCells_some (P := P) w lv m b m c news hl hb
        refine ⟨.slice (some ⟨g, 0, none⟩) (sLen + m) sCap, _, ?_, .inr (.inl ⟨by omega, g, cur, rfl, hg, hcur, hroom, rfl, rfl⟩)⟩
        simp [Builtin.append_, run_underlying ht, sizeOf, typeInfo, hi, hsz, Builtin.lenOf, hroom, hf, Addr.add_lit, hst]
    · have hb' : sLen + m ≤ maxLen := by unfold maxLen; omega
      have hcaple : sLen + m ≤ grownCap w (sLen + m) sCap elem := by simp [grownCap, Question.cut]
      have hfit2 : Builtin.nextslicecap (sLen + m) sCap * info.bytes ≤ 281474976710656 := growslice_fits (by omega) hfit
      rcases hbase with ⟨h0, rfl⟩ | ⟨g, cur, rfl, hg, hcur, ho⟩
      · have hs0 : sLen = 0 := by omega
        subst h0 hs0
        have hz0 : (grownCap w m 0 elem - m) * z.cells.size = (grownCap w m 0 elem - m) * lv := by rw [hzs]
        simp only [Nat.zero_add] at hcaple hfit2
        cases base with
        | none =>
          have := run_append_nil (P := P) w t rt elem info z ht hi hz b m c news (by rw [hsz]; exact hl) hb (by omega) (by omega) (by rw [Nat.zero_add] at hfit; omega)
          refine ⟨_, _, this, .inr (.inr ⟨by omega, grownCap w m 0 elem, _, by simpa using hcaple, by simp, rfl, ?_, Builtin.zeroCells z.cells (grownCap w m 0 elem - m) |>.toList, by simp⟩)⟩
          simp only [Array.size_append, List.size_toArray, hl, size_zeroCells, hz0]
          rw [← Nat.add_mul]
          congr 1
          omega
        | some b0 =>
          have := run_append_grow (P := P) w t rt elem info z ht hi hz b0 0 0 [] (by simp) (by simp) b m c news (by rw [hsz]; exact hl) hb (by omega) (by omega) (by simpa using hfit2)
          simp only [Nat.zero_add] at this
          refine ⟨_, _, this, .inr (.inr ⟨by omega, grownCap w m 0 elem, _, by simpa using hcaple, by simp, rfl, ?_, Builtin.zeroCells z.cells (grownCap w m 0 elem - m) |>.toList, by simp⟩)⟩
          simp only [Array.size_append, List.size_toArray, hl, size_zeroCells, hz0, List.length_nil, Nat.zero_add]
          rw [← Nat.add_mul]
          congr 1
          omega
      · have := run_append_grow (P := P) w t rt elem info z ht hi hz ⟨g, 0, none⟩ sLen sCap olds (by rw [hsz]; exact hlo) ho b m c news (by rw [hsz]; exact hl) hb (by omega) (by omega) hfit2
        refine ⟨_, _, this, .inr (.inr ⟨by omega, grownCap w (sLen + m) sCap elem, _, hcaple, rfl, rfl, ?_, Builtin.zeroCells z.cells (grownCap w (sLen + m) sCap elem - (sLen + m)) |>.toList, by simp⟩)⟩
        simp only [Array.size_append, List.size_toArray, hl, hlo, size_zeroCells, hzs]
        rw [← Nat.add_mul, ← Nat.add_mul]
        congr 1
        omega
structure SrcG (P : Program) (w : World) (E : Env) (e : Ty) (ys : List e.den) (t t' rt elem : TypeId) (bytes : Nat) (y : Value) (news : List Value) : Prop where
 len : news.length = ys.length * e.lv
 rows : ∀ i (hi : i < ys.length), Rep w E (.res 0) e ys[i] .fz (fun _ => .top) (fun j => news[i * e.lv + j]?)
 run : AppRun P w t t' rt elem bytes e.lv y ys.length news
theorem Src.gen {e : Ty} {ys : List e.den} {y : Value} (hy : Src w E e ys y) {t elem : TypeId} {info : TypeInfo} {z : Value} (ht : P.underlying t = some (.slice elem)) (hi : P.info? elem = some info) (hz : info.zero = some z) (hsz : info.size = e.lv) (hzs : z.cells.size = e.lv) (rt : TypeId) :
  ∃ news, SrcG P w E e ys t t rt elem info.bytes y news := by
 obtain ⟨ad, cc, news, rfl, n2, n3, n4, n5⟩ := hy
 exact ⟨news, n2, n5, fun ty base sLen sCap olds h1 h2 h3 h4 h5 => append_run (ty := ty) (ti := ⟨e, 0, [], []⟩) ht hi hz hsz hzs (lv_pos e) rt h1 h2 h3 n2 (fun h => n3 (by intro e; subst e; simp at h)) n4 h4 h5⟩
end
end Go.Proofs.YtfegppjofphpfaaDoor.Vc
namespace Go.Proofs.YtfegppjofphpfaaDoor.Vc
open Go Go.RowKit
set_option linter.unusedVariables false
set_option linter.unusedSimpArgs false
section
variable {P : Program} {T : Tab} {n : Nat} {w0 : World} {E0 : Env0} {s : St} {ops : Array Oper} {Q : Exit → St → Prop} {rest : List Oper}
variable {w w' : World} {E E' : Env} {μ μ' : Nat → Value} {H H' : Heap}
theorem drew_alloc_heap (w : World) (o : Obj) : (w.drew.alloc o).heap = w.heap.push o := rfl
theorem KpH.setAt {id : Nat} {b b' : Option Blk} {y : Value} (hb : H[id]? = some b) (hk : Kp (μ id) y b b') : KpH μ (putμ μ id y) H (H.set id b') := by
 intro i c hc
 by_cases h : i = id
 ·subst h
  rw [hb] at hc
  simp only [Option.some.injEq] at hc
  subst hc
  have hlt : i < H.length := (List.getElem?_eq_some_iff.1 hb).1
  exact ⟨b', by simp [hlt], by simpa [putμ] using hk⟩
 ·refine ⟨c, by rw [List.getElem?_set_ne (Ne.symm h)]; exact hc, ?_⟩
  rw [show putμ μ id y i = μ i by simp [putμ, h]]
  exact Kp.refl _ _
theorem rows_append {r : Root} {e : Ty} {m : Md} {p : Nat → Nat → Pos} {xs ys : List e.den} {olds news : List Value} {get : Nat → Option Value} (hlo : olds.length = xs.length * e.lv) (hln : news.length = ys.length * e.lv)
  (hg : ∀ (j : Nat) v, (olds ++ news)[j]? = some v → get j = some v)
  (h1 : ∀ i (h : i < xs.length), Rep w E r e xs[i] m (p i) (fun j => olds[i * e.lv + j]?))
  (h2 : ∀ i (h : i < ys.length), Rep w E r e ys[i] m (p (xs.length + i)) (fun j => news[i * e.lv + j]?)) :
  ∀ i (h : i < (xs ++ ys).length), Rep w E r e (xs ++ ys)[i] m (p i) (fun j => get (i * e.lv + j)) := by
 intro i hi
 by_cases hx : i < xs.length
 ·rw [List.getElem_append_left hx]
  refine Rep.move (fun _ => True) (fun q => q) (fun c hc => ⟨hc, rfl⟩) (fun c q _ hq => ⟨hq, rfl, fun k => ⟨trivial, rfl⟩⟩) e _ m _ _ _ _ (fun _ => ⟨fun _ => trivial, fun _ => rfl⟩) (fun j v hj hv => ?_) (h1 i hx)
  apply hg
  rw [List.getElem?_append_left (List.getElem?_eq_some_iff.1 hv).1]
  exact hv
 ·have hge : xs.length ≤ i := by omega
  rw [List.getElem_append_right hge]
  have hlt : i - xs.length < ys.length := by simp at hi; omega
  have := h2 (i - xs.length) hlt
  rw [show xs.length + (i - xs.length) = i by omega] at this
  refine Rep.move (fun _ => True) (fun q => q) (fun c hc => ⟨hc, rfl⟩) (fun c q _ hq => ⟨hq, rfl, fun k => ⟨trivial, rfl⟩⟩) e _ m _ _ _ _ (fun _ => ⟨fun _ => trivial, fun _ => rfl⟩) (fun j v hj hv => ?_) this
  apply hg
  have hmul : xs.length * e.lv ≤ i * e.lv := Nat.mul_le_mul_right _ hge
  rw [List.getElem?_append_right (by omega), hlo]
  rw [Nat.sub_mul] at hv
  rw [show i * e.lv + j - xs.length * e.lv = i * e.lv - xs.length * e.lv + j by omega]
  exact hv
theorem Rep.nested {r r' : Root} {e : Ty} {x : e.den} {m : Md} {p p' : Nat → Pos} {g : Nat → Option Value} (hfl : m.nest = .fz ∨ e.flat = true) (h : Rep w E r e x .fz p g) : Rep w E r' e x m.nest p' g := by
 rcases hfl with hf | hf
 ·rw [hf]; exact Rep.fz (fun c hc => ⟨hc, rfl⟩) e x (fun _ _ _ h => h) h
 ·exact Rep.flat hf h
theorem mdOf_nest (e : Ty) : (mdOf e).nest = .fz ∨ e.flat = true := by
 unfold mdOf
 cases h : e.flat
 ·exact .inl rfl
 ·exact .inr rfl
theorem app_nil {a : Act} (hT : TabOk P T) (hA : At n w0 E0 s a w E μ) {o : Oper} {c : Call} {x y : Operand} {t : TypeId} {d : Nat} (ho : o.op = .call c) (hcal : c.callee = .builtin .append) (hargs : c.args = #[x, y]) {t' : TypeId} (hts : c.argTypes = #[t, t'])
  (hg : o.guard = none) (hd : o.dst = some d) (hdn : d < n) {ti : TI} {e : Ty} (he : elemTy T t = some (ti, e)) {ys : List e.den} (hx : ∃ ad, a.eval x = .slice ad 0 0) (hy : ∀ info z, P.info? ti.elem = some info → info.zero = some z → info.size = e.lv → z.cells.toList = e.zeros → ∃ news, SrcG P w E e ys t t' o.type ti.elem info.bytes (a.eval y) news) (hl : ys.length ≤ lim e)
  (k : VO P n w0 E0 ops Q rest ⟨(d, .lf (.hd s.H.length 0 none)) :: s.sl, s.H ++ [some (.arr 0 e ys (mdOf e))]⟩) :
  wpList P ops (fun e a' w' => ∃ s', SRel n w0 E0 s' a' w' ∧ Q e s') (o :: rest) a w := by
 obtain ⟨f1, ej, f2, f3⟩ := elemTy_under hT he
 obtain ⟨info, g1, g2, g3, _, g5, g6⟩ := (hT _ _ f2).info
 rw [f3] at g2 g3 g6
 obtain ⟨z, hz, hz'⟩ := Option.map_eq_some_iff.1 g3
 have hpos := lv_pos e
 have hzs : z.cells.size = e.lv := by rw [← Array.length_toList, hz', zeros_length]
 have hlim0 : lim e ≤ 140737488355328 := Nat.div_le_self _ _
 have hfit : ys.length * info.bytes ≤ 140737488355328 := by
  have a2 : lim e * (24 * e.lv) ≤ 140737488355328 := Nat.div_mul_le_self _ _
  have a3 : ys.length * info.bytes ≤ lim e * (24 * e.lv) := Nat.mul_le_mul hl (by omega)
  omega
 obtain ⟨ad0, hx⟩ := hx
 obtain ⟨news, n2, n5, hr0⟩ := hy info z g1 hz g2 hz'
 obtain ⟨y', w', hrun, hcase⟩ := hr0 ti.elem ad0 0 0 [] (by simp) (Nat.le_refl 0) (.inl ⟨rfl, rfl⟩) (by simpa using hfit) (by omega)
 refine wpList_value (y := y') (w' := w') hg ?_ ?_
 ·simp only [execOp, ho, resolve, hcal, hargs, hts, Sem.run_bind, Sem.run_pure, Result.andThen_ok, invoke, builtin]
  simp only [List.map_toArray, List.map_cons, List.map_nil, hx, hrun, Result.andThen_ok]
 ·rw [hd]
  rcases hcase with ⟨h0, hy', hw'⟩ | ⟨hm, g, cur, _, _, _, hroom, _⟩ | ⟨_, cap', cells, hcap, hy', hw', hcs, tail, htail⟩
  ·have hys : ys = [] := List.length_eq_zero_iff.1 h0
   subst hys
   rw [hy', hw']
   have hK := KpH.push (μ := μ) s.H (some (.arr 0 e [] (mdOf e))) (.slice ad0 0 0)
   have hS : ∀ b, E.S b → E.S b ∧ w.heap[b]? = w.heap[b]? := fun b hb => ⟨hb, rfl⟩
   have hM : MR w E (putμ μ s.H.length (.slice ad0 0 0)) (s.H ++ [some (.arr 0 e [] (mdOf e))]) 0 := by
    refine MR.step hA.mr hA.mr.apart hA.mr.ltS hA.mr.ltκ (fun b r q h => ?_) hS hK (fun id blk h => ?_)
    ·rcases hA.mr.roots b r q h with ⟨m, h1, h2⟩ | h1
     ·exact .inl ⟨m, h1, by simp; omega⟩
     ·exact .inr h1
    ·by_cases hid : id < s.H.length
     ·rw [List.getElem?_append_left hid] at h
      exact .inl ⟨h, by simp [putμ]; omega, fun b q hq => ⟨hq, rfl⟩⟩
     ·have hlt := (List.getElem?_eq_some_iff.1 h).1
      have : id = s.H.length := by simp at hlt; omega
      subst this
      simp only [List.getElem?_concat_length, Option.some.injEq] at h
      subst h
      exact .inr ⟨mdOf_ne e, _, rfl, .inr ⟨mdOf_ne e, .inl ⟨rfl, ad0, by simp [putμ]⟩⟩⟩
   exact k _ _ (hA.put hdn hM (Ext.refl w E) hS hK (hd_new _ _ _ rfl e _ _)).rel
  ·exact absurd hroom (by omega)
  ·rw [hy', hw']
   simp only [Nat.zero_add] at hcap ⊢
   have hA' : MR w.drew E μ s.H 0 := ⟨hA.mr.apart, hA.mr.ltS, hA.mr.ltκ, hA.mr.roots, fun id blk h => NB.keep (w := w) (w' := w.drew) (fun b hb => ⟨hb, rfl⟩) (KpH.refl μ s.H) (fun b q hq => ⟨hq, rfl⟩) rfl (hA.mr.blks id blk h)⟩
   have hNB := arr_new (w := w.drew) (E := E) (μ := μ) (H := s.H) (c := cap') (cells := cells) (ty := ti.elem) (xs := ys) (m := mdOf e) (mdOf_ne e) hcap hcs (fun i hi => by
    have hS : ∀ b, E.S b → (putκ E w.drew.heap.size (.id s.H.length, .top)).S b ∧ (w.drew.alloc (.cells cells ti.elem)).heap[b]? = w.heap[b]? := fun b hb => ⟨hb, alloc_old w.drew _ (hA.mr.ltS b hb)⟩
    refine Rep.nested (mdOf_nest e) (Rep.fz hS e _ (r' := .res 0) (p' := fun _ => .top) (fun j v hj hv => ?_) (n5 i hi))
    have hlt := (List.getElem?_eq_some_iff.1 hv).1
    rw [← Array.getElem?_toList, htail, List.nil_append, List.getElem?_append_left hlt]
    exact hv) 0
   obtain ⟨m1, m2, m3⟩ := MR.alloc hA' _ ti.elem _ _ hNB
   have hE : Ext w E w.drew E := ⟨rfl, rfl, rfl, Nat.le_refl _, fun _ _ _ => rfl, fun _ h => h, fun _ h => .inl h, fun _ h => .inl h⟩
   exact k _ _ (hA.put hdn m1 (hE.trans hA.mr.apart m2) m3 (KpH.push s.H _ _) (hd_new _ _ _ rfl e ys (mdOf e))).rel
def mvPos (g b : Nat) : Pos → Pos
 | .inside g' k => if g' = g then .inside b k else .inside g' k
 | .top => .top
def mvκ (E : Env) (id g b : Nat) : Env := ⟨E.S, fun c => if c = b then some (.id id, .top) else if c = g then none else (E.κ c).map fun x => (x.1, if x.1 = .id id then mvPos g b x.2 else x.2)⟩
theorem Rep.moved {id g b : Nat} (hS : ∀ c, E.S c → (mvκ E id g b).S c ∧ w'.heap[c]? = w.heap[c]?) (hg : ∀ q, E.κ g = some (.id id, q) → q = .top) (hb : E.κ b = none) (hh : ∀ c, E.κ c ≠ none → c ≠ g → w'.heap[c]? = w.heap[c]?)
  (t : Ty) (x : t.den) (m : Md) (q : Nat) (f f' : Nat → Option Value) (hf : ∀ j v, j < t.lv → f j = some v → f' j = some v) (h : Rep w E (.id id) t x m (fun j => .inside g (q + j)) f) :
  Rep w' (mvκ E id g b) (.id id) t x m (fun j => .inside b (q + j)) f' := by
 refine Rep.move (fun p => ∃ b k, p = Pos.inside b k) (mvPos g b) hS (fun c p hp hc => ?_) t x m _ _ f f' (fun _ => ⟨fun j => ⟨_, _, rfl⟩, fun j => by simp [mvPos]⟩) hf h
 obtain ⟨b1, k1, rfl⟩ := hp
 have hcg : c ≠ g := by
  intro e
  subst e
  have := hg _ hc
  simp at this
 have hcb : c ≠ b := by intro e; subst e; rw [hb] at hc; simp at hc
 refine ⟨?_, hh c (by simp [hc]) hcg, fun k => ⟨⟨_, _, rfl⟩, by simp [mvPos, hcg]⟩⟩
 simp only [mvκ, if_neg hcb, if_neg hcg, hc, Option.map_some, if_true]
theorem app_hd {a : Act} (hT : TabOk P T) (hA : At n w0 E0 s a w E μ) {o : Oper} {c : Call} {x y : Operand} {t : TypeId} {d : Nat} (ho : o.op = .call c) (hcal : c.callee = .builtin .append) (hargs : c.args = #[x, y]) {t' : TypeId} (hts : c.argTypes = #[t, t'])
  (hg : o.guard = none) (hd : o.dst = some d) (hdn : d < n) {ti : TI} {e : Ty} (he : elemTy T t = some (ti, e)) {ys xs : List e.den} {id ver : Nat} {m : Md} (hH : s.H[id]? = some (some (.arr ver e xs m))) (hx : a.eval x = μ id) (hfl : m.nest = .fz ∨ e.flat = true)
  (hy : ∀ info z, P.info? ti.elem = some info → info.zero = some z → info.size = e.lv → z.cells.toList = e.zeros → ∃ news, SrcG P w E e ys t t' o.type ti.elem info.bytes (a.eval y) news) (hl : xs.length + ys.length ≤ lim e)
  (k : VO P n w0 E0 ops Q rest ⟨(d, .lf (.hd id (ver + 1) none)) :: s.sl, s.H.set id (some (.arr (ver + 1) e (xs ++ ys) m))⟩) :
  wpList P ops (fun e a' w' => ∃ s', SRel n w0 E0 s' a' w' ∧ Q e s') (o :: rest) a w := by
 obtain ⟨f1, ej, f2, f3⟩ := elemTy_under hT he
 obtain ⟨info, g1, g2, g3, _, g5, g6⟩ := (hT _ _ f2).info
 rw [f3] at g2 g3 g6
 obtain ⟨z, hz, hz'⟩ := Option.map_eq_some_iff.1 g3
 have hpos := lv_pos e
 have hzs : z.cells.size = e.lv := by rw [← Array.length_toList, hz', zeros_length]
 have hlim0 : lim e ≤ 140737488355328 := Nat.div_le_self _ _
 have hfit : (xs.length + ys.length) * info.bytes ≤ 140737488355328 := by
  have a2 : lim e * (24 * e.lv) ≤ 140737488355328 := Nat.div_mul_le_self _ _
  have a3 : (xs.length + ys.length) * info.bytes ≤ lim e * (24 * e.lv) := Nat.mul_le_mul hl (by omega)
  omega
 obtain ⟨news, n2, n5, hr0⟩ := hy info z g1 hz g2 hz'
 have hidlt : id < s.H.length := (List.getElem?_eq_some_iff.1 hH).1
 obtain ⟨hm, hrow⟩ := hA.mr.arr hH
 -- the row as it stands
 obtain ⟨base, sCap, olds, ty, b1, b2, b3, b4⟩ : ∃ (base : Option Addr) (sCap : Nat) (olds : List Value) (ty : TypeId), μ id = .slice base xs.length sCap ∧ xs.length ≤ sCap ∧ olds.length = xs.length * e.lv ∧
   ((sCap = 0 ∧ olds = [] ∧ xs = []) ∨ ∃ g cur, base = some ⟨g, 0, none⟩ ∧ w.heap[g]? = some (.cells cur ty (0, 0)) ∧ cur.size = sCap * e.lv ∧ (∀ (j : Nat) v, olds[j]? = some v → w.cell? ((⟨g, 0, none⟩ : Addr).add j) = some v) ∧
    E.κ g = some (.id id, .top) ∧ (∀ i (h : i < xs.length), Rep w E (.id id) e xs[i] m.nest (fun j => .inside g (i * e.lv + j)) (fun j => olds[i * e.lv + j]?)) ∧ olds = cur.toList.take (xs.length * e.lv)) := by
  rcases hrow with ⟨rfl, ad0, h0⟩ | ⟨g, c', arr, ty, h1, h2, h3, h4, h5, h6⟩
  ·exact ⟨ad0, 0, [], 0, by simpa using h0, by simp, by simp, .inl ⟨rfl, rfl, rfl⟩⟩
  ·have hmul : xs.length * e.lv ≤ c' * e.lv := Nat.mul_le_mul_right _ h2
   have hlen : (arr.toList.take (xs.length * e.lv)).length = xs.length * e.lv := by simp; omega
   have hcell : ∀ q, q < xs.length * e.lv → cellAt w g q = (arr.toList.take (xs.length * e.lv))[q]? := by
    intro q hq
    simp only [cellAt, World.cell?, h3, Option.isSome_none, Bool.false_eq_true, if_false]
    rw [List.getElem?_take, if_pos hq, Array.getElem?_toList]
   refine ⟨some ⟨g, 0, none⟩, c', arr.toList.take (xs.length * e.lv), ty, h1, h2, hlen, .inr ⟨g, arr, rfl, h3, h4, ?_, h5, ?_, rfl⟩⟩
   ·intro j v hv
    rw [add_at, Nat.zero_add]
    have hj := (List.getElem?_eq_some_iff.1 hv).1
    rw [hlen] at hj
    exact (hcell j hj).trans hv
   ·intro i hi
    refine Rep.move (fun _ => True) (fun q => q) (fun c hc => ⟨hc, rfl⟩) (fun c q _ hq => ⟨hq, rfl, fun k => ⟨trivial, rfl⟩⟩) e _ m.nest _ _ _ _ (fun _ => ⟨fun _ => trivial, fun _ => rfl⟩) (fun j v hj hv => ?_) (h6 i hi)
    rw [← hcell]
    ·exact hv
    ·have : (i + 1) * e.lv ≤ xs.length * e.lv := Nat.mul_le_mul_right _ hi
     rw [Nat.add_mul, Nat.one_mul] at this
     omega
 obtain ⟨y', w', hrun, hcase⟩ := hr0 ty base xs.length sCap olds b3 b2
  (b4.imp (fun h => ⟨h.1, h.2.1⟩) (fun ⟨g, cur, h1, h2, h3, h4, _⟩ => ⟨g, cur, h1, h2, h3, h4⟩)) (by simpa using hfit) (by omega)
 refine wpList_value (y := y') (w' := w') hg ?_ ?_
 ·simp only [execOp, ho, resolve, hcal, hargs, hts, Sem.run_bind, Sem.run_pure, Result.andThen_ok, invoke, builtin]
  simp only [List.map_toArray, List.map_cons, List.map_nil, hx, b1, hrun, Result.andThen_ok]
 ·rw [hd]
  have hKp : ∀ y : Value, KpH μ (putμ μ id y) s.H (s.H.set id (some (.arr (ver + 1) e (xs ++ ys) m))) := fun y => KpH.setAt hH (.inl (Nat.lt_succ_self _))
  have hAR : ∀ (w' : World) (E' : Env) (y : Value), y.oneCell' = true → AR w' E' (putμ μ id y) (s.H.set id (some (.arr (ver + 1) e (xs ++ ys) m))) (.lf (.hd id (ver + 1) none)) y := by
   intro w' E' y h1
   simp [AR, LR, putμ, HdR, h1, hidlt]
  have hold : ∀ (w' : World) (E' : Env) (y : Value), (∀ (i : Nat) b q, i ≠ id → E.κ b = some (.id i, q) → E'.κ b = some (.id i, q) ∧ w'.heap[b]? = w.heap[b]?) → NB w' E' (putμ μ id y) (s.H.set id (some (.arr (ver + 1) e (xs ++ ys) m))) id (.arr (ver + 1) e (xs ++ ys) m) →
    ∀ (i : Nat) blk, (s.H.set id (some (.arr (ver + 1) e (xs ++ ys) m)))[i]? = some (some blk) → (s.H[i]? = some (some blk) ∧ (putμ μ id y) i = μ i ∧ ∀ b q, E.κ b = some (.id i, q) → E'.κ b = some (.id i, q) ∧ w'.heap[b]? = w.heap[b]?) ∨ NB w' E' (putμ μ id y) (s.H.set id (some (.arr (ver + 1) e (xs ++ ys) m))) i blk := by
   intro w' E' y h1 h2 i blk hi
   by_cases hid : i = id
   ·subst hid
    simp only [List.getElem?_set_self hidlt, Option.some.injEq] at hi
    subst hi
    exact .inr h2
   ·rw [List.getElem?_set_ne (Ne.symm hid)] at hi
    exact .inl ⟨hi, by simp [putμ, hid], fun b q => h1 i b q hid⟩
  rcases hcase with ⟨h0, hy', hw'⟩ | ⟨hm0, g, cur, hbg, hcur, hcs, hroom, hy', hw'⟩ | ⟨_, cap', cells, hcap, hy', hw', hcs, tail, htail⟩
  ·have hys : ys = [] := List.length_eq_zero_iff.1 h0
   subst hys
   rw [hy', hw']
   have hS : ∀ b, E.S b → E.S b ∧ w.heap[b]? = w.heap[b]? := fun b hb => ⟨hb, rfl⟩
   have hM : MR w E (putμ μ id (.slice base xs.length sCap)) (s.H.set id (some (.arr (ver + 1) e (xs ++ []) m))) 0 := by
    refine MR.step hA.mr hA.mr.apart hA.mr.ltS hA.mr.ltκ (fun b r q h => by simpa using hA.mr.roots b r q h) hS (hKp _) (hold w E _ (fun i b q _ h => ⟨h, rfl⟩) ?_)
    have := hA.mr.blks id _ hH
    rw [← b1]
    simpa [NB, putμ] using this
   exact k _ _ (hA.put hdn hM (Ext.refl w E) hS (hKp _) (hAR _ _ _ rfl)).rel
  ·rcases b4 with ⟨z1, z2, z3⟩ | ⟨g', cur', p1, p2, p3, p4, p5, p6, p7⟩
   ·omega
   ·rw [hbg] at p1
    simp only [Option.some.injEq, Addr.mk.injEq, and_true] at p1
    subst p1
    rw [hcur] at p2
    simp only [Option.some.injEq, Obj.cells.injEq, and_true] at p2
    subst p2
    rw [hy', hw']
    generalize hnew : (cur.toList.take (xs.length * e.lv) ++ news ++ cur.toList.drop (xs.length * e.lv + news.length)).toArray = arr'
    have hmul : (xs.length + ys.length) * e.lv ≤ sCap * e.lv := Nat.mul_le_mul_right _ hroom
    rw [Nat.add_mul] at hmul
    have hother := fun c (hc : c ≠ g) => setRow_other w g c arr' hc
    have hthis := setRow_this w g cur arr' ty _ hcur
    have hS : ∀ c, E.S c → E.S c ∧ (w.setRow g arr').heap[c]? = w.heap[c]? := fun c hc => ⟨hc, hother c (fun e => by subst e; have := hA.mr.apart c hc; rw [p5] at this; simp at this)⟩
    have hcell : ∀ (j : Nat) v, (olds ++ news)[j]? = some v → cellAt (w.setRow g arr') g j = some v := by
     intro j v hv
     have hj := (List.getElem?_eq_some_iff.1 hv).1
     simp only [cellAt, World.cell?, hthis, Option.isSome_none, Bool.false_eq_true, if_false]
     rw [← hnew, List.getElem?_toArray, List.getElem?_append_left (by rw [← p7]; exact hj), ← p7]
     exact hv
    have hin : ∀ (t : Ty) (z : t.den) (mm : Md) (p : Nat → Nat) (f f' : Nat → Option Value), (∀ j v, j < t.lv → f j = some v → f' j = some v) → Rep w E (.id id) t z mm (fun j => .inside g (p j)) f → Rep (w.setRow g arr') E (.id id) t z mm (fun j => .inside g (p j)) f' := by
     intro t z mm p f f' hff hr
     refine Rep.move (fun q => ∃ b k, q = Pos.inside b k) (fun q => q) hS (fun c q hq hc => ?_) t z mm _ _ f f' (fun _ => ⟨fun q => ⟨_, _, rfl⟩, fun _ => rfl⟩) hff hr
     obtain ⟨b1, k1, rfl⟩ := hq
     refine ⟨hc, hother c (fun e => ?_), fun k => ⟨⟨_, _, rfl⟩, rfl⟩⟩
     subst e
     rw [p5] at hc
     simp at hc
    have hrows := rows_append (w := w.setRow g arr') (E := E) (r := .id id) (m := m.nest) (p := fun i j => .inside g (i * e.lv + j)) (xs := xs) (ys := ys) (olds := olds) (news := news) (get := cellAt (w.setRow g arr') g) b3 n2 hcell
     (fun i hi => hin e _ _ _ _ _ (fun _ _ _ h => h) (p6 i hi))
     (fun i hi => Rep.nested hfl (Rep.fz hS e _ (r' := .res 0) (p' := fun _ => .top) (fun _ _ _ h => h) (n5 i hi)))
    have hM : MR (w.setRow g arr') E (putμ μ id (.slice base (xs.length + ys.length) sCap)) (s.H.set id (some (.arr (ver + 1) e (xs ++ ys) m))) 0 := by
     refine MR.step hA.mr hA.mr.apart (fun c hc => by simpa using hA.mr.ltS c hc) (fun c hc => by simpa using hA.mr.ltκ c hc) (fun b r q h => by simpa using hA.mr.roots b r q h) hS (hKp _) (hold _ E _ (fun i b q hi h => ⟨h, hother b (fun e => ?_)⟩) ?_)
     ·subst e
      rw [p5] at h
      simp only [Option.some.injEq, Prod.mk.injEq, Root.id.injEq] at h
      exact hi h.1.symm
     ·refine ⟨hm, _, rfl, .inr ⟨hm, .inr ⟨g, sCap, arr', ty, by simp [putμ, hbg], by simpa using hroom, hthis, ?_, p5, hrows⟩⟩⟩
      rw [← hnew]
      simp only [List.size_toArray, List.length_append, List.length_take, List.length_drop, Array.length_toList]
      omega
    refine k _ _ (hA.put hdn hM ⟨rfl, rfl, rfl, by simp, fun c hc hn => hother c (fun e => by subst e; rw [p5] at hn; simp at hn), fun c hc => hc, fun c hc => .inl hc, fun c hc => .inl hc⟩ hS (hKp _) (hAR _ _ _ rfl)).rel
  ·rw [hy', hw']
   have hsize : ∀ c, E.κ c ≠ none → c ≠ w.heap.size := fun c h e => by have := hA.mr.ltκ c h; omega
   -- the block the row leaves, or the new one itself
   obtain ⟨g, q1, q2, q3⟩ : ∃ g, (∀ q, E.κ g = some (.id id, q) → q = .top) ∧ (∀ i b q, i ≠ id → E.κ b = some (.id i, q) → b ≠ g) ∧
     ∀ (w' : World), (∀ c, E.S c → (mvκ E id g w.heap.size).S c ∧ w'.heap[c]? = w.heap[c]?) → (∀ c, E.κ c ≠ none → c ≠ g → w'.heap[c]? = w.heap[c]?) → ∀ i (h : i < xs.length), Rep w' (mvκ E id g w.heap.size) (.id id) e xs[i] m.nest (fun j => .inside w.heap.size (i * e.lv + j)) (fun j => olds[i * e.lv + j]?) := by
    rcases b4 with ⟨z1, z2, z3⟩ | ⟨g, cur, p1, p2, p3, p4, p5, p6, p7⟩
    ·subst z3
     refine ⟨w.heap.size, fun q hq => absurd rfl (hsize _ (by simp [hq])), fun i b q _ h => hsize b (by simp [h]), fun w' _ _ i hi => by simp at hi⟩
    ·refine ⟨g, fun q hq => by rw [p5] at hq; simp at hq; exact hq.symm, fun i b q hi h e => ?_, fun w' hS hh i hi => ?_⟩
     ·subst e
      rw [p5] at h
      simp only [Option.some.injEq, Prod.mk.injEq, Root.id.injEq] at h
      exact hi h.1.symm
     ·refine Rep.moved hS (fun q hq => by rw [p5] at hq; simp at hq; exact hq.symm) ?_ hh e _ m.nest (i * e.lv) _ _ (fun _ _ _ h => h) (p6 i hi)
      cases hk : E.κ w.heap.size with
      | none => rfl
      | some z => exact absurd rfl (hsize _ (by simp [hk]))
   have hother : ∀ c, c < w.heap.size → (w.drew.alloc (.cells cells ti.elem)).heap[c]? = w.heap[c]? := fun c hc => alloc_old w.drew _ hc
   have hS : ∀ c, E.S c → (mvκ E id g w.heap.size).S c ∧ (w.drew.alloc (.cells cells ti.elem)).heap[c]? = w.heap[c]? := fun c hc => ⟨hc, hother c (hA.mr.ltS c hc)⟩
   have hrows := rows_append (w := w.drew.alloc (.cells cells ti.elem)) (E := mvκ E id g w.heap.size) (r := .id id) (m := m.nest) (p := fun i j => .inside w.heap.size (i * e.lv + j)) (xs := xs) (ys := ys) (olds := olds) (news := news) (get := fun j => cells[j]?) b3 n2
    (fun j v hv => by
     have hj := (List.getElem?_eq_some_iff.1 hv).1
     rw [← Array.getElem?_toList, htail, List.getElem?_append_left hj]
     exact hv)
    (q3 _ hS (fun c hc _ => hother c (hA.mr.ltκ c hc)))
    (fun i hi => Rep.nested hfl (Rep.fz hS e _ (r' := .res 0) (p' := fun _ => .top) (fun _ _ _ h => h) (n5 i hi)))
   have hnew : (w.drew.alloc (.cells cells ti.elem)).heap[w.heap.size]? = some (.cells cells ti.elem (0, 0)) := by rw [drew_alloc_heap]; simp
   have hnsz : (w.drew.alloc (.cells cells ti.elem)).heap.size = w.heap.size + 1 := by rw [drew_alloc_heap]; simp
   have hM : MR (w.drew.alloc (.cells cells ti.elem)) (mvκ E id g w.heap.size) (putμ μ id (.slice (some ⟨w.heap.size, 0, none⟩) (xs.length + ys.length) cap')) (s.H.set id (some (.arr (ver + 1) e (xs ++ ys) m))) 0 := by
    refine MR.step hA.mr (fun c hc => ?_) (fun c hc => ?_) (fun c hc => ?_) (fun c r q h => ?_) hS (hKp _) (hold _ _ _ (fun i c q hi h => ⟨?_, hother c (hA.mr.ltκ c (by simp [h]))⟩) ?_)
    ·have := hA.mr.ltS c hc
     simp only [mvκ, if_neg (show c ≠ w.heap.size by omega), hA.mr.apart c hc, Option.map_none, ite_self]
    ·have := hA.mr.ltS c hc
     rw [hnsz]; omega
    ·simp only [mvκ] at hc
     split at hc
     ·rw [hnsz]; omega
     ·split at hc
      ·simp at hc
      ·have := hA.mr.ltκ c (by intro e; rw [e] at hc; simp at hc)
       rw [hnsz]; omega
    ·simp only [mvκ] at h
     split at h
     ·simp only [Option.some.injEq, Prod.mk.injEq] at h
      exact .inl ⟨id, h.1.symm, by simpa using hidlt⟩
     ·split at h
      ·simp at h
      ·simp only [Option.map_eq_some_iff, Prod.mk.injEq] at h
       obtain ⟨⟨r', q'⟩, h1, h2, h3⟩ := h
       have := hA.mr.roots c r' q' h1
       simp only at h2
       rw [← h2]
       simpa using this
    ·simp only [mvκ, if_neg (hsize c (by simp [h])), if_neg (q2 i c q hi h), h, Option.map_some, Root.id.injEq, if_neg hi]
    ·refine ⟨hm, _, rfl, .inr ⟨hm, .inr ⟨w.heap.size, cap', cells, ti.elem, by simp [putμ], by simpa using hcap, hnew, hcs, by simp [mvκ], ?_⟩⟩⟩
     have hce : ∀ j, cellAt (w.drew.alloc (.cells cells ti.elem)) w.heap.size j = cells[j]? := fun j => by simp only [cellAt, World.cell?, hnew, Option.isSome_none, Bool.false_eq_true, if_false]
     intro i hi
     simpa only [hce] using hrows i hi
   refine k _ _ (hA.put hdn hM ⟨rfl, rfl, rfl, by rw [hnsz]; omega, fun c hc hn => hother c hc, fun c hc => hc, fun c hc => .inl hc, fun c hc => ?_⟩ hS (hKp _) (hAR _ _ _ rfl)).rel
   simp only [mvκ] at hc
   split at hc
   ·exact .inr (by omega)
   ·split at hc
    ·simp at hc
    ·exact .inl (fun e => by rw [e] at hc; simp at hc)
theorem app_pre {a : Act} (hT : TabOk P T) (hA : At n w0 E0 s a w E μ) {o : Oper} {c : Call} {x y : Operand} {t : TypeId} {d : Nat} (ho : o.op = .call c) (hcal : c.callee = .builtin .append) (hargs : c.args = #[x, y]) (hts : c.argTypes = #[t, t])
  (hg : o.guard = none) (hd : o.dst = some d) (hdn : d < n) {ti : TI} {e : Ty} (he : elemTy T t = some (ti, e)) {ys xs : List e.den} {id ver i : Nat} {m : Md} (hH : s.H[id]? = some (some (.arr ver e xs m))) (hx : HdR e.lv xs.length (μ id) (some (0, i)) (a.eval x)) (hfl : m.nest = .fz ∨ e.flat = true)
  (hy : Src w E e ys (a.eval y)) (hl : i + ys.length ≤ xs.length) (hlim : xs.length ≤ lim e)
  (k : VO P n w0 E0 ops Q rest ⟨(d, .lf (.hd id ver (some (0, i + ys.length)))) :: s.sl, s.H.set id (some (.arr ver e (xs.take i ++ ys ++ xs.drop (i + ys.length)) m))⟩) :
  wpList P ops (fun e a' w' => ∃ s', SRel n w0 E0 s' a' w' ∧ Q e s') (o :: rest) a w := by
 obtain ⟨f1, ej, f2, f3⟩ := elemTy_under hT he
 obtain ⟨info, g1, g2, g3, _, g5, g6⟩ := (hT _ _ f2).info
 rw [f3] at g2 g3 g6
 obtain ⟨z, hz, hz'⟩ := Option.map_eq_some_iff.1 g3
 have hpos := lv_pos e
 have hzs : z.cells.size = e.lv := by rw [← Array.length_toList, hz', zeros_length]
 have hlim0 : lim e ≤ 140737488355328 := Nat.div_le_self _ _
 have hfit : (i + ys.length) * info.bytes ≤ 140737488355328 := by
  have a2 : lim e * (24 * e.lv) ≤ 140737488355328 := Nat.div_mul_le_self _ _
  have a3 : (i + ys.length) * info.bytes ≤ lim e * (24 * e.lv) := Nat.mul_le_mul (by omega) (by omega)
  omega
 obtain ⟨ad, cc, news, n1, n2, n3, n4, n5⟩ := hy
 have hidlt : id < s.H.length := (List.getElem?_eq_some_iff.1 hH).1
 obtain ⟨hm, hrow⟩ := hA.mr.arr hH
 obtain ⟨base, sCap, q1, q2, q3, q4, a', q5, q6, q7⟩ := hx
 simp only [Nat.sub_zero] at q5
 have q7 := q7 rfl
 subst q7
 have hlen : (xs.take i ++ ys ++ xs.drop (i + ys.length)).length = xs.length := by simp; omega
 have hAR : ∀ (w' : World) (E' : Env) (y : Value), y = .slice a' (i + ys.length) sCap → AR w' E' μ (s.H.set id (some (.arr ver e (xs.take i ++ ys ++ xs.drop (i + ys.length)) m))) (.lf (.hd id ver (some (0, i + ys.length)))) y := by
  intro w' E' y h1
  subst h1
  simp only [AR, LR, List.getElem?_set_self hidlt, Nat.le_refl, true_and, HdR, hlen]
  exact ⟨rfl, fun _ => ⟨a', sCap, q1, q2, by omega, q4, a', rfl, fun h => by cases a' <;> simp [Addr.add], fun _ => rfl⟩⟩
 have hKp : Kp (μ id) (μ id) (some (.arr ver e xs m)) (some (.arr ver e (xs.take i ++ ys ++ xs.drop (i + ys.length)) m)) := .inr ⟨rfl, rfl, hlen, rfl⟩
 have hmul : xs.length * e.lv ≤ sCap * e.lv := Nat.mul_le_mul_right _ q2
 -- the block
 rcases hrow with ⟨rfl, ad0, h0⟩ | ⟨g, c', cur, ty, h1, h2, h3, h4, h5, h6⟩
 · -- no rows at all
  simp only [List.length_nil, Nat.le_zero, Nat.add_eq_zero_iff] at hl
  obtain ⟨hi0, hy0⟩ := hl
  subst hi0
  have hys : ys = [] := List.length_eq_zero_iff.1 hy0
  subst hys
  rw [h0] at q1
  simp only [Value.slice.injEq] at q1
  obtain ⟨rfl, _, rfl⟩ := q1
  obtain ⟨y', w', hrun, hcase⟩ := append_run (P := P) (w := w) (ty := 0) (ti := ti) f1 g1 hz g2 hzs hpos o.type (base := ad0) (sLen := 0) (sCap := 0) (olds := []) (by simp) (by simp)
   (.inl ⟨rfl, rfl⟩) (ad := ad) (m := 0) (c := cc) (news := news) (by simpa using n2) (fun h => by omega) n4 (by simp) (by omega)
  have hcase' : y' = .slice ad0 0 0 ∧ w' = w := by
   rcases hcase with ⟨_, r1, r2⟩ | ⟨r, _⟩ | ⟨r, _⟩
   ·exact ⟨r1, r2⟩
   ·omega
   ·omega
  obtain ⟨rfl, rfl⟩ := hcase'
  refine wpList_value (y := .slice ad0 0 0) (w' := w') hg ?_ ?_
  ·simp only [execOp, ho, resolve, hcal, hargs, hts, Sem.run_bind, Sem.run_pure, Result.andThen_ok, invoke, builtin]
   simp only [List.map_toArray, List.map_cons, List.map_nil, q5, n1, List.length_nil, hrun, Result.andThen_ok]
  ·rw [hd]
   have hset : s.H.set id (some (.arr ver e (([] : List e.den).take 0 ++ [] ++ ([] : List e.den).drop (0 + ([] : List e.den).length)) m)) = s.H := by
    apply List.ext_getElem?
    intro j
    by_cases hj : id = j
    ·subst hj; rw [List.getElem?_set_self hidlt, hH]; simp
    ·rw [List.getElem?_set_ne hj]
   have h7 := hAR w' E _ rfl
   rw [hset] at h7 k
   exact k _ _ (hA.put hdn hA.mr (Ext.refl w' E) (fun b hb => ⟨hb, rfl⟩) (KpH.refl μ s.H) h7).rel
 ·rw [h1] at q1
  simp only [Value.slice.injEq] at q1
  obtain ⟨rfl, _, rfl⟩ := q1
  have hil : i * e.lv ≤ xs.length * e.lv := Nat.mul_le_mul_right _ (by omega)
  have hcell : ∀ q, q < c' * e.lv → cellAt w g q = cur.toList[q]? := by
   intro q hq
   simp only [cellAt, World.cell?, h3, Option.isSome_none, Bool.false_eq_true, if_false]
   rw [Array.getElem?_toList]
  have holen : (cur.toList.take (i * e.lv)).length = i * e.lv := by simp; omega
  obtain ⟨y', w', hrun, hcase⟩ := append_run (P := P) (w := w) (ty := ty) (ti := ti) f1 g1 hz g2 hzs hpos o.type (base := some ⟨g, 0, none⟩) (sLen := i) (sCap := c') (olds := cur.toList.take (i * e.lv)) holen (by omega)
   (.inr ⟨g, cur, rfl, h3, h4, fun j v hv => by
    rw [add_at, Nat.zero_add]
    have hj := (List.getElem?_eq_some_iff.1 hv).1
    rw [holen] at hj
    rw [List.getElem?_take, if_pos hj] at hv
    exact (hcell j (by omega)).trans hv⟩) (ad := ad) (m := ys.length) (c := cc) (news := news) n2
   (fun h => n3 (by intro e; subst e; simp at h)) n4 (by simpa using hfit) (by omega)
  refine wpList_value (y := y') (w' := w') hg ?_ ?_
  ·simp only [execOp, ho, resolve, hcal, hargs, hts, Sem.run_bind, Sem.run_pure, Result.andThen_ok, invoke, builtin]
   simp only [List.map_toArray, List.map_cons, List.map_nil, q5, n1, hrun, Result.andThen_ok]
  ·rw [hd]
   rcases hcase with ⟨h0, hy', hw'⟩ | ⟨hm0, g', cur', hbg, hcur, hcs, hroom, hy', hw'⟩ | ⟨hbad, _⟩
   ·have hys : ys = [] := List.length_eq_zero_iff.1 h0
    subst hys
    rw [hy', hw']
    have hset : s.H.set id (some (.arr ver e (xs.take i ++ [] ++ xs.drop (i + ([] : List e.den).length)) m)) = s.H := by
     apply List.ext_getElem?
     intro j
     by_cases hj : id = j
     ·subst hj; rw [List.getElem?_set_self hidlt, hH]; simp
     ·rw [List.getElem?_set_ne hj]
    have h7 := hAR w E _ rfl
    rw [hset] at h7 k
    exact k _ _ (hA.put hdn hA.mr (Ext.refl w E) (fun b hb => ⟨hb, rfl⟩) (KpH.refl μ s.H) h7).rel
   ·simp only [Option.some.injEq, Addr.mk.injEq, and_true] at hbg
    subst hbg
    rw [h3] at hcur
    simp only [Option.some.injEq, Obj.cells.injEq, and_true] at hcur
    subst hcur
    rw [hy', hw']
    generalize hnew : (cur.toList.take (i * e.lv) ++ news ++ cur.toList.drop (i * e.lv + news.length)).toArray = arr'
    have hmul2 : (i + ys.length) * e.lv ≤ c' * e.lv := Nat.mul_le_mul_right _ (by omega)
    rw [Nat.add_mul] at hmul2
    have hother := fun c (hc : c ≠ g) => setRow_other w g c arr' hc
    have hthis := setRow_this w g cur arr' ty _ h3
    have hS : ∀ c, E.S c → E.S c ∧ (w.setRow g arr').heap[c]? = w.heap[c]? := fun c hc => ⟨hc, hother c (fun e => by subst e; have := hA.mr.apart c hc; rw [h5] at this; simp at this)⟩
    have hsz : arr'.size = c' * e.lv := by
     rw [← hnew]
     simp only [List.size_toArray, List.length_append, List.length_take, List.length_drop, Array.length_toList]
     omega
    have hget : ∀ q, cellAt (w.setRow g arr') g q = (cur.toList.take (i * e.lv) ++ news ++ cur.toList.drop (i * e.lv + news.length))[q]? := by
     intro q
     simp only [cellAt, World.cell?, hthis, Option.isSome_none, Bool.false_eq_true, if_false]
     rw [← hnew, List.getElem?_toArray]
    have hin : ∀ (t : Ty) (z : t.den) (mm : Md) (p : Nat → Nat) (f f' : Nat → Option Value), (∀ j v, j < t.lv → f j = some v → f' j = some v) → Rep w E (.id id) t z mm (fun j => .inside g (p j)) f → Rep (w.setRow g arr') E (.id id) t z mm (fun j => .inside g (p j)) f' := by
     intro t z mm p f f' hff hr
     refine Rep.move (fun q => ∃ b k, q = Pos.inside b k) (fun q => q) hS (fun c q hq hc => ?_) t z mm _ _ f f' (fun _ => ⟨fun q => ⟨_, _, rfl⟩, fun _ => rfl⟩) hff hr
     obtain ⟨b1, k1, rfl⟩ := hq
     refine ⟨hc, hother c (fun e => ?_), fun k => ⟨⟨_, _, rfl⟩, rfl⟩⟩
     subst e
     rw [h5] at hc
     simp at hc
    have hrows : ∀ j (hj : j < (xs.take i ++ ys ++ xs.drop (i + ys.length)).length), Rep (w.setRow g arr') E (.id id) e (xs.take i ++ ys ++ xs.drop (i + ys.length))[j] m.nest (fun q => .inside g (j * e.lv + q)) (fun q => cellAt (w.setRow g arr') g (j * e.lv + q)) := by
     intro j hj
     rw [hlen] at hj
     have hjm : (j + 1) * e.lv ≤ xs.length * e.lv := Nat.mul_le_mul_right _ hj
     rw [Nat.add_mul, Nat.one_mul] at hjm
     by_cases c1 : j < i
     ·have hx : (xs.take i ++ ys ++ xs.drop (i + ys.length))[j]'(by rw [hlen]; exact hj) = xs[j] := by
       rw [List.getElem_append_left (by simp; omega), List.getElem_append_left (by simp; omega)]
       simp
      rw [hx]
      refine hin e _ _ _ _ _ (fun q v hq hv => ?_) (h6 j hj)
      have hle : (j + 1) * e.lv ≤ i * e.lv := Nat.mul_le_mul_right _ c1
      rw [Nat.add_mul, Nat.one_mul] at hle
      rw [hget, List.append_assoc, List.getElem?_append_left (by rw [holen]; omega), List.getElem?_take, if_pos (by omega), ← hcell _ (by omega)]
      exact hv
     ·by_cases c2 : j < i + ys.length
      ·have hx : (xs.take i ++ ys ++ xs.drop (i + ys.length))[j]'(by rw [hlen]; exact hj) = ys[j - i]'(by omega) := by
        rw [List.getElem_append_left (by simp; omega), List.getElem_append_right (by simp; omega)]
        congr 1
        simp
        omega
       rw [hx]
       refine Rep.nested hfl (Rep.fz hS e _ (r' := .res 0) (p' := fun _ => .top) (fun q v hq hv => ?_) (n5 (j - i) (by omega)))
       have hle : i * e.lv ≤ j * e.lv := Nat.mul_le_mul_right _ (by omega)
       have hle2 : (j + 1) * e.lv ≤ (i + ys.length) * e.lv := Nat.mul_le_mul_right _ (by omega)
       rw [Nat.add_mul, Nat.one_mul, Nat.add_mul] at hle2
       rw [hget, List.getElem?_append_left (by simp only [List.length_append, holen, n2]; omega), List.getElem?_append_right (by rw [holen]; omega), holen]
       rw [Nat.sub_mul] at hv
       rw [show j * e.lv + q - i * e.lv = j * e.lv - i * e.lv + q by omega]
       exact hv
      ·have hx : (xs.take i ++ ys ++ xs.drop (i + ys.length))[j]'(by rw [hlen]; exact hj) = xs[j] := by
        rw [List.getElem_append_right (by simp; omega)]
        simp only [List.getElem_drop]
        congr 1
        simp
        omega
       rw [hx]
       refine hin e _ _ _ _ _ (fun q v hq hv => ?_) (h6 j hj)
       have hle : (i + ys.length) * e.lv ≤ j * e.lv := Nat.mul_le_mul_right _ (by omega)
       rw [Nat.add_mul] at hle
       rw [hget, List.getElem?_append_right (by simp only [List.length_append, holen, n2]; omega), List.getElem?_drop]
       simp only [List.length_append, holen, n2]
       rw [show i * e.lv + ys.length * e.lv + (j * e.lv + q - (i * e.lv + ys.length * e.lv)) = j * e.lv + q by omega, ← hcell _ (by omega)]
       exact hv
    obtain ⟨m1, m2, m3, m4⟩ := MR.wrote hA.mr (w' := w.setRow g arr') hH h5 h3 hKp hother (by simp) ⟨rfl, rfl, rfl⟩
     (show NB (w.setRow g arr') E μ (s.H.set id (some (.arr ver e (xs.take i ++ ys ++ xs.drop (i + ys.length)) m))) id (.arr ver e (xs.take i ++ ys ++ xs.drop (i + ys.length)) m) from
      ⟨hm, _, rfl, .inr ⟨hm, .inr ⟨g, c', arr', ty, by rw [h1, hlen], by rw [hlen]; exact h2, hthis, hsz, h5, hrows⟩⟩⟩)
    exact k _ _ (hA.put hdn m1 m2 m3 m4 (hAR _ _ _ rfl)).rel
   ·omega
theorem VO.app {o : Oper} {d : Nat} {φ : Prop} {v : AV} {H' : Heap} (hT : TabOk P T) (h : evApp T n s o = some (d, φ, v, H')) (hφ : φ) (k : VO P n w0 E0 ops Q rest ⟨(d, v) :: s.sl, H'⟩) : VO P n w0 E0 ops Q (o :: rest) s := by
 intro a w hs
 obtain ⟨E, μ, hA⟩ := hs.at
 unfold evApp at h
 split at h
 ·rename_i d' args argTypes hg hd ho
  cases hb : Nat.blt d' n with
  | false => rw [hb] at h; simp at h
  | true =>
   rw [hb] at h
   simp only [cond_true] at h
   have hdn : d' < n := by simpa [Nat.blt_eq] using hb
   split at h
   ·rename_i x y t t' hargs hts
    cases ht : Nat.beq t t' with
    | false => rw [ht] at h; simp at h
    | true =>
     rw [ht] at h
     have htt : t = t' := Nat.eq_of_beq_eq_true ht
     subst htt
     simp only [cond_true] at h
     split at h
     ·rename_i ti e vx vy he hx hy
      split at h
      ·rename_i ys hys
       have hsrc := srcRows_run hA.mr hys (hA.opnd hy)
       have ha1 : args = #[x, y] := by rw [← Array.toArray_toList (xs := args), hargs]
       have ha2 : argTypes = #[t, t] := by rw [← Array.toArray_toList (xs := argTypes), hts]
       split at h
       ·simp only [Option.some.injEq, Prod.mk.injEq] at h
        obtain ⟨rfl, rfl, rfl, rfl⟩ := h
        have hxx := hA.opnd hx
        exact app_nil hT hA ho rfl ha1 ha2 hg hd hdn he hxx (fun info z g1 hz g2 hz' => hsrc.gen (elemTy_under hT he).1 g1 hz g2 (by rw [← Array.length_toList, hz', zeros_length]) _) hφ k
       ·rename_i id ver
        split at h
        ·rename_i cur e' xs m hH
         cases hc : (Nat.beq ver cur && (decide (m = .tp) || e'.flat)) with
         | false => rw [hc] at h; simp at h
         | true =>
          rw [hc] at h
          simp only [cond_true] at h
          simp only [Bool.and_eq_true, Bool.or_eq_true, decide_eq_true_eq] at hc
          obtain ⟨hv, hfl⟩ := hc
          have hv := Nat.eq_of_beq_eq_true hv
          subst hv
          split at h
          ·rename_i zs hz
           obtain ⟨rfl, rfl⟩ := castL_eq hz
           simp only [cast_eq, Option.some.injEq, Prod.mk.injEq] at h
           obtain ⟨rfl, rfl, rfl, rfl⟩ := h
           have hxx := hA.opnd hx
           simp only [AR, LR, hH] at hxx
           have h3 := hxx.2.2 trivial
           simp only [HdR] at h3
           refine app_hd hT hA ho rfl ha1 ha2 hg hd hdn he hH h3 ?_ (fun info z g1 hz g2 hz' => hsrc.gen (elemTy_under hT he).1 g1 hz g2 (by rw [← Array.length_toList, hz', zeros_length]) _) hφ k
           rcases hfl with rfl | hf
           ·exact .inl rfl
           ·exact .inr hf
          ·simp at h
        ·simp at h
       ·rename_i id ver i
        split at h
        ·rename_i cur e' xs m hH
         cases hc : (Nat.beq ver cur && (decide (m = .tp) || e'.flat)) with
         | false => rw [hc] at h; simp at h
         | true =>
          rw [hc] at h
          simp only [cond_true] at h
          simp only [Bool.and_eq_true, Bool.or_eq_true, decide_eq_true_eq] at hc
          obtain ⟨hv, hfl⟩ := hc
          have hv := Nat.eq_of_beq_eq_true hv
          subst hv
          split at h
          ·rename_i zs hz
           obtain ⟨rfl, rfl⟩ := castL_eq hz
           simp only [cast_eq, Option.some.injEq, Prod.mk.injEq] at h
           obtain ⟨rfl, rfl, rfl, rfl⟩ := h
           have hxx := hA.opnd hx
           simp only [AR, LR, hH] at hxx
           have h3 := hxx.2.2 trivial
           refine app_pre hT hA ho rfl ha1 ha2 hg hd hdn he hH h3 ?_ hsrc hφ.1 hφ.2 k
           rcases hfl with rfl | hf
           ·exact .inl rfl
           ·exact .inr hf
          ·simp at h
        ·simp at h
       ·simp at h
      ·simp at h
     ·simp at h
   ·simp at h
 ·simp at h
end
end Go.Proofs.YtfegppjofphpfaaDoor.Vc
namespace Go.Proofs.YtfegppjofphpfaaDoor.Vc
open Go Go.RowKit
set_option linter.unusedVariables false
set_option linter.unusedSimpArgs false
inductive RL where
 | v (t : Ty) (x : t.den)
 | own (e : Ty) (xs : List e.den) (m : Md)
inductive RC where
 | lf (a : RL)
 | agg (l : List RL)
def cnt : List RL → Nat
 | [] => 0
 | .v _ _ :: l => cnt l
 | .own _ _ _ :: l => cnt l + 1
def RC.ls : RC → List RL
 | .lf a => [a]
 | .agg l => l
def cntC : List RC → Nat
 | [] => 0
 | c :: l => cnt c.ls + cntC l
def RLs (w : World) (E : Env) : Nat → List RL → List Value → Prop
 | _, [], [] => True
 | k, .v t x :: l, y :: ys => Rep w E (.res 0) t x .fz (fun _ => .top) (at0 y) ∧ RLs w E k l ys
 | k, .own e xs m :: l, y :: ys => (m ≠ .fz ∧ Rep w E (.res k) (.sl e) xs m (fun _ => .top) (at0 y)) ∧ RLs w E (k + 1) l ys
 | _, _, _ => False
def RCs (w : World) (E : Env) : Nat → List RC → List Value → Prop
 | _, [], [] => True
 | k, .lf a :: l, y :: ys => RLs w E k [a] [y] ∧ RCs w E (k + cnt [a]) l ys
 | k, .agg c :: l, y :: ys => (∃ arr : Array Value, y = .agg arr ∧ RLs w E k c arr.toList) ∧ RCs w E (k + cnt c) l ys
 | _, _, _ => False
def RR (w : World) (E : Env) (rs : List RC) (y : Value) : Prop :=
 match rs with
 | [c] => RCs w E 0 [c] [y]
 | rs => ∃ arr : Array Value, y = .tuple arr ∧ RCs w E 0 rs arr.toList
def Tabs (P : Program) (w : World) (E : Env) : Prop :=
 ∀ g, P.globalNamed "internal/strconv.uint64pow10" = some g → E.κ g = none ∧ g < w.heap.size ∧ w.var? P "internal/strconv.uint64pow10" = some (([1, 10, 100, 1000, 10000, 100000, 1000000, 10000000, 100000000, 1000000000, 10000000000, 100000000000, 1000000000000, 10000000000000, 100000000000000, 1000000000000000, 10000000000000000, 100000000000000000, 1000000000000000000, 10000000000000000000] : List Int).map fun z => Value.int .u64 z).toArray
theorem Tabs.ext {P : Program} {w w' : World} {E E' : Env} (h : Tabs P w E) (hX : Ext w E w' E') : Tabs P w' E' := by
 intro g hg
 obtain ⟨h1, h2, h3⟩ := h g hg
 have hb := hX.block g h2 h1
 refine ⟨?_, Nat.lt_of_lt_of_le h2 hX.size, ?_⟩
 ·cases hk : E'.κ g with
  | none => rfl
  | some x =>
   rcases hX.own g (by simp [hk]) with h4 | h4
   ·exact absurd h1 h4
   ·omega
 ·simp only [World.var?, hg, Option.bind_some] at h3 ⊢
  rw [hb]
  exact h3
theorem Tabs.env {P : Program} {w : World} {E E' : Env} (h : Tabs P w E) (hκ : ∀ b, E.κ b = none → E'.κ b = none) : Tabs P w E' := fun g hg => ⟨hκ g (h g hg).1, (h g hg).2⟩
def HC (P : Program) (f : FuncId) (ps : List AV) (rs : List RC) : Prop :=
 ∀ (w : World) (E : Env) (args : Array Value), (∀ b, E.κ b = none) → (∀ b, E.S b → b < w.heap.size) → Tabs P w E → All2 (AR w E (fun _ => undef) []) ps args.toList →
  Calls P f args w fun e w' => ∃ y E', e = .returned y ∧ Ext w E w' E' ∧ (∀ b, E'.S b → E'.κ b = none) ∧ (∀ b, E'.S b → b < w'.heap.size) ∧ (∀ b, E'.κ b ≠ none → b < w'.heap.size) ∧
   (∀ b r q, E'.κ b = some (r, q) → ∃ n, r = .res n ∧ n < cntC rs) ∧ RR w' E' rs y
inductive WL where
 | v (t : Ty)
 | own (e : Ty) (m : Md)
inductive WC where
 | lf (a : WL)
 | agg (l : List WL)
def pos : List (Option Nat) → Nat → Option Nat
 | [], _ => none
 | o :: l, i => cond (match o with | some j => Nat.beq j i | none => false) (some 0) ((pos l i).map (· + 1))
def retL (H : Heap) (ids : List (Option Nat)) (k : Nat) : WL → Lf → Option RL
 | .v t, .v t' x => if h : t' = t then some (.v t (cast (congrArg Ty.den h) x)) else none
 | .v (.sl e), .nil => some (.v (.sl e) [])
 | .v (.sl e), .hd id ver rng => match pos ids id with
  | none => match H[id]? with
   | some (some (.arr cur e' xs m)) => cond (Nat.beq ver cur) ((castL e' e (match rng with | none => xs | some (o, l) => (xs.drop o).take l)).map fun ys => .v (.sl e) ys) none
   | _ => none
  | some _ => none
 | .own e m, .nil => cond (decide (m ≠ .fz)) (some (.own e [] m)) none
 | .own e m, .hd id ver none => match pos ids id with
  | some k' => cond (Nat.beq k' k) (match H[id]? with
   | some (some (.arr cur e' xs m')) => cond (Nat.beq ver cur && decide (m' = m)) ((castL e' e xs).map fun ys => .own e ys m) none
   | _ => none) none
  | none => none
 | _, _ => none
def retLs (H : Heap) (ids : List (Option Nat)) : Nat → List WL → List Lf → Option (List RL)
 | _, [], [] => some []
 | k, .v t :: ws, a :: as => match retL H ids k (.v t) a, retLs H ids k ws as with
  | some r, some rs => some (r :: rs)
  | _, _ => none
 | k, .own e m :: ws, a :: as => match retL H ids k (.own e m) a, retLs H ids (k + 1) ws as with
  | some r, some rs => some (r :: rs)
  | _, _ => none
 | _, _, _ => none
def cntW : List WL → Nat
 | [] => 0
 | .v _ :: l => cntW l
 | .own _ _ :: l => cntW l + 1
def resAV (T : Tab) (s : St) : ResultVar → Option AV
 | .tmp t => opnd s.sl (.tmp t)
 | .cell a ty => match T ty, opnd s.sl (.tmp a) with
  | some ti, some (.lf (.ptr id _ _ j)) => match s.H[id]? with
   | some (some (.box l _)) => takeAs ti l j
   | _ => none
  | _, _ => none
def retCs (T : Tab) (s : St) (ids : List (Option Nat)) : Nat → List WC → List ResultVar → Option (List RC)
 | _, [], [] => some []
 | k, .lf a :: ws, r :: rs => match resAV T s r with
  | some (.lf l) => match retLs s.H ids k [a] [l], retCs T s ids (k + cntW [a]) ws rs with
   | some [x], some xs => some (.lf x :: xs)
   | _, _ => none
  | _ => none
 | k, .agg c :: ws, r :: rs => match resAV T s r with
  | some (.agg l) => match retLs s.H ids k c l, retCs T s ids (k + cntW c) ws rs with
   | some x, some xs => some (.agg x :: xs)
   | _, _ => none
  | _ => none
 | _, _, _ => none
section
variable {P : Program} {T : Tab} {n : Nat} {w0 : World} {E0 : Env0} {s : St} {ops : Array Oper} {Q : Exit → St → Prop} {rest : List Oper}
variable {w w' : World} {E E' : Env} {μ μ' : Nat → Value} {H H' : Heap}
def retE (E : Env) (ids : List (Option Nat)) : Env :=
 ⟨fun b => E.S b ∨ ∃ i q, E.κ b = some (.id i, q) ∧ pos ids i = none, fun b => match E.κ b with
  | some (.id i, q) => (pos ids i).map fun k => (.res k, q)
  | _ => none⟩
theorem retL_run {ids : List (Option Nat)} {k j : Nat} (hM : MR w E μ H j) {wl : WL} {a : Lf} {r : RL} (h : retL H ids k wl a = some r) {y : Value} (hy : LR w E μ H a y) :
  (∀ t, wl = .v t → ∃ x, r = .v t x ∧ Rep w (retE E ids) (.res 0) t x .fz (fun _ => .top) (at0 y)) ∧
  (∀ e m, wl = .own e m → ∃ xs, r = .own e xs m ∧ m ≠ .fz ∧ Rep w (retE E ids) (.res k) (.sl e) xs m (fun _ => .top) (at0 y)) := by
 have hS : ∀ b, E.S b → (retE E ids).S b ∧ w.heap[b]? = w.heap[b]? := fun b hb => ⟨.inl hb, rfl⟩
 unfold retL at h
 split at h
 ·rename_i t t' x
  split at h
  ·rename_i ht
   subst ht
   simp only [Option.some.injEq] at h
   subst h
   refine ⟨fun t e => ?_, fun e m h => by simp at h⟩
   simp only [WL.v.injEq] at e
   subst e
   exact ⟨x, rfl, Rep.fz hS t' x (fun _ _ _ h => h) hy⟩
  ·simp at h
 ·rename_i e
  simp only [Option.some.injEq] at h
  subst h
  refine ⟨fun t e' => ?_, fun e m h => by simp at h⟩
  simp only [WL.v.injEq] at e'
  subst e'
  obtain ⟨ad, rfl⟩ := hy
  exact ⟨[], rfl, _, rfl, .inl ⟨rfl, .inl ⟨rfl, ad, 0, rfl⟩⟩⟩
 ·rename_i e id ver rng
  split at h
  ·rename_i hp
   split at h
   ·rename_i cur e' xs m hH
    cases hv : Nat.beq ver cur with
    | false => rw [hv] at h; simp at h
    | true =>
     rw [hv] at h
     simp only [cond_true, Option.map_eq_some_iff] at h
     obtain ⟨ys, h1, rfl⟩ := h
     obtain ⟨rfl, rfl⟩ := castL_eq h1
     refine ⟨fun t e => ?_, fun e m h => by simp at h⟩
     simp only [WL.v.injEq] at e
     subst e
     refine ⟨_, rfl, ?_⟩
     simp only [cast_eq]
     have hκ : ∀ b q, E.κ b = some (.id id, q) → (retE E ids).S b ∧ w.heap[b]? = w.heap[b]? := fun b q hq => ⟨.inr ⟨id, q, hq, hp⟩, rfl⟩
     simp only [LR, hH] at hy
     have hy' := hy.2.2 (Nat.eq_of_beq_eq_true hv)
     obtain ⟨hm, ha⟩ := hM.arr hH
     cases rng with
     | none =>
      simp only [HdR] at hy'
      subst hy'
      have := hM.blks id _ hH
      exact Rep.freeze hS hκ (.sl e') xs m _ _ _ _ (fun _ _ _ h => h) this.2
     | some ol =>
      obtain ⟨o, l⟩ := ol
      replace hy' := HdR.old hy'
      rcases hy' with ⟨rfl, ad, c, rfl⟩ | ⟨b, c, c', f1, rfl, f3, f4⟩
      ·exact ⟨_, rfl, .inl ⟨rfl, .inl ⟨by simp, ad, c, rfl⟩⟩⟩
      ·rcases ha with ⟨rfl, ad, ha⟩ | ⟨b', c2, arr, ty, g1, g2, g3, g4, g5, g6⟩
       ·simp at f3
        obtain ⟨rfl, rfl⟩ := f3
        exact ⟨_, rfl, .inl ⟨rfl, .inl ⟨by simp, _, _, rfl⟩⟩⟩
       ·rw [f1] at g1
        simp only [Value.slice.injEq, Option.some.injEq, Addr.mk.injEq, and_true] at g1
        obtain ⟨rfl, _, _⟩ := g1
        have hlen : ((xs.drop o).take l).length = l := by simp; omega
        refine ⟨_, rfl, .inl ⟨rfl, .inr ⟨b, o * e'.lv, c', by rw [hlen], by rw [hlen]; exact f4, .inr ⟨id, _, g5, hp⟩, fun i hi => ?_⟩⟩⟩
        have hi' : i < l := by rw [hlen] at hi; exact hi
        have hx : ((xs.drop o).take l)[i] = xs[o + i] := by simp
        rw [hx]
        refine Rep.freeze hS hκ e' _ m.nest _ _ _ _ (fun j v _ hv => ?_) (g6 (o + i) (by omega))
        rw [show o * e'.lv + i * e'.lv + j = (o + i) * e'.lv + j by rw [Nat.add_mul]]
        exact hv
   ·simp at h
  ·simp at h
 ·rename_i e m
  cases hm : decide (m ≠ .fz) with
  | false => rw [hm] at h; simp at h
  | true =>
   rw [hm] at h
   simp only [cond_true, Option.some.injEq] at h
   subst h
   have hm' : m ≠ .fz := by simpa using hm
   refine ⟨fun t h => by simp at h, fun e' m' h => ?_⟩
   simp only [WL.own.injEq] at h
   obtain ⟨rfl, rfl⟩ := h
   obtain ⟨ad, rfl⟩ := hy
   exact ⟨[], rfl, hm', _, rfl, .inr ⟨hm', .inl ⟨rfl, ad, rfl⟩⟩⟩
 ·rename_i e m id ver
  split at h
  ·rename_i k' hp
   cases hk : Nat.beq k' k with
   | false => rw [hk] at h; simp at h
   | true =>
    rw [hk] at h
    have hkk := Nat.eq_of_beq_eq_true hk
    subst hkk
    simp only [cond_true] at h
    split at h
    ·rename_i cur e' xs m' hH
     cases hc : (Nat.beq ver cur && decide (m' = m)) with
     | false => rw [hc] at h; simp at h
     | true =>
      rw [hc] at h
      simp only [Bool.and_eq_true, decide_eq_true_eq] at hc
      obtain ⟨hv, rfl⟩ := hc
      simp only [cond_true, Option.map_eq_some_iff] at h
      obtain ⟨ys, h1, rfl⟩ := h
      obtain ⟨rfl, rfl⟩ := castL_eq h1
      refine ⟨fun t h => by simp at h, fun e2 m2 h => ?_⟩
      simp only [WL.own.injEq] at h
      obtain ⟨rfl, rfl⟩ := h
      simp only [LR, hH] at hy
      have hy' := hy.2.2 (Nat.eq_of_beq_eq_true hv)
      simp only [HdR] at hy'
      subst hy'
      have := hM.blks id _ hH
      refine ⟨_, rfl, this.1, ?_⟩
      refine Rep.move (fun _ => True) (fun q => q) hS (fun b q _ hq => ⟨?_, rfl, fun _ => ⟨trivial, rfl⟩⟩) (.sl e') _ m' _ _ _ _ (fun _ => ⟨fun _ => trivial, fun _ => rfl⟩) (fun _ _ _ h => h) this.2
      simp only [retE, hq, hp, Option.map_some]
    ·simp at h
  ·simp at h
 ·simp at h
theorem retLs_run {ids : List (Option Nat)} {j : Nat} (hM : MR w E μ H j) : ∀ {wls : List WL} {as : List Lf} {k : Nat} {rs : List RL} {ys : List Value}, retLs H ids k wls as = some rs → All2 (LR w E μ H) as ys → RLs w (retE E ids) k rs ys ∧ cnt rs = cntW wls
 | [], [], k, rs, [], h, .nil => by
  simp only [retLs, Option.some.injEq] at h
  subst h
  exact ⟨trivial, rfl⟩
 | .v t :: ws, a :: as, k, rs, y :: ys, h, .cons h1 h2 => by
  simp only [retLs] at h
  split at h
  ·rename_i r rs' e1 e2
   simp only [Option.some.injEq] at h
   subst h
   obtain ⟨x, rfl, hx⟩ := (retL_run hM e1 h1).1 t rfl
   obtain ⟨a1, a2⟩ := retLs_run hM e2 h2
   exact ⟨⟨hx, a1⟩, a2⟩
  ·simp at h
 | .own e m :: ws, a :: as, k, rs, y :: ys, h, .cons h1 h2 => by
  simp only [retLs] at h
  split at h
  ·rename_i r rs' e1 e2
   simp only [Option.some.injEq] at h
   subst h
   obtain ⟨x, rfl, hx⟩ := (retL_run hM e1 h1).2 e m rfl
   obtain ⟨a1, a2⟩ := retLs_run hM e2 h2
   exact ⟨⟨hx, a1⟩, by simp [cnt, cntW, a2]⟩
  ·simp at h
theorem resAV_run (hT : TabOk P T) {a : Act} (hA : At n w0 E0 s a w E μ) {r : ResultVar} {v : AV} (h : resAV T s r = some v) :
  ∃ y, (match r with
   | .tmp t => (pure (a.tmps.getD t undef) : Sem Value)
   | .cell x t => do loadVar t (← asAddr (a.tmps.getD x undef))).run P w = .ok y w ∧ AR w E μ s.H v y := by
 cases r with
 | tmp t =>
  obtain ⟨y, h1, h2⟩ := hA.tmp h
  exact ⟨y, by simp [Array.getD_eq_getD_getElem?, h1], h2⟩
 | cell x ty =>
  simp only [resAV] at h
  split at h
  ·rename_i ti id ver i j hi hx
   split at h
   ·rename_i l tid hH
    obtain ⟨y, h1, h2⟩ := hA.tmp hx
    simp only [AR, LR, hH] at h2
    obtain ⟨_, b, h3, rfl⟩ := h2
    obtain ⟨b', arr, f1, f2, f3, f4⟩ := hA.mr.blks id _ hH
    rw [h3] at f1
    simp only [Value.pointer.injEq, Option.some.injEq, Addr.mk.injEq, and_true] at f1
    subst f1
    obtain ⟨z, h5, h6⟩ := takeAs_run hT hi h (b := b) (o := 0) (w := w) (E := E) (μ := μ) (H := s.H) (fun k a ha => by
     obtain ⟨y, q1, q2⟩ := f4.get k a ha
     refine ⟨y, ?_, q2⟩
     simp only [cellAt, World.cell?, f3, Option.isSome_none, Bool.false_eq_true, if_false, Nat.zero_add]
     rw [← Array.getElem?_toList]
     exact q1)
    refine ⟨z, ?_, h6⟩
    simp only [Nat.zero_add] at h5
    have e1 : a.tmps.getD x undef = .pointer (some ⟨b, j, none⟩) := by simp [Array.getD_eq_getD_getElem?, h1]
    simp only [Sem.run_bind, e1, asAddr, Sem.run_pure, Result.andThen_ok, h5]
   ·simp at h
  ·simp at h
def argSl : Nat → List AV → List (Nat × AV)
 | _, [] => []
 | i, p :: ps => (i, p) :: argSl (i + 1) ps
theorem argSl_look : ∀ (ps : List AV) (i k : Nat) (v : AV), look (argSl i ps) k = some v → i ≤ k ∧ ps[k - i]? = some v
 | [], _, _, _, h => by simp [argSl, look] at h
 | p :: ps, i, k, v, h => by
  simp only [argSl, look_put] at h
  split at h
  ·rename_i e
   subst e
   exact ⟨Nat.le_refl _, by simpa using h⟩
  ·obtain ⟨h1, h2⟩ := argSl_look ps (i + 1) k v h
   exact ⟨by omega, by rw [show k - i = (k - (i + 1)) + 1 by omega]; simpa using h2⟩
theorem retCs_run (hT : TabOk P T) {a : Act} (hA : At n w0 E0 s a w E μ) {ids : List (Option Nat)} (f : ResultVar → Sem Value) (hf1 : ∀ t, f (.tmp t) = pure (a.tmps.getD t undef)) (hf2 : ∀ x t, f (.cell x t) = (do loadVar t (← asAddr (a.tmps.getD x undef)))) :
  ∀ {ws : List WC} {rvs : List ResultVar} {k : Nat} {rs : List RC}, retCs T s ids k ws rvs = some rs → ∃ ys, (rvs.mapM f).run P w = .ok ys w ∧ RCs w (retE E ids) k rs ys ∧ ys.length = rs.length
 | [], [], k, rs, h => by
  simp only [retCs, Option.some.injEq] at h
  subst h
  exact ⟨[], by simp, trivial, rfl⟩
 | .lf wl :: ws, r :: rvs, k, rs, h => by
  simp only [retCs] at h
  split at h
  ·rename_i l hl
   split at h
   ·rename_i x xs e1 e2
    simp only [Option.some.injEq] at h
    subst h
    obtain ⟨y, h1, h2⟩ := resAV_run hT hA hl
    obtain ⟨ys, h3, h4, h5⟩ := retCs_run hT hA f hf1 hf2 e2
    obtain ⟨a1, a2⟩ := retLs_run hA.mr e1 (.cons h2 .nil)
    refine ⟨y :: ys, ?_, ⟨a1, by rw [a2]; exact h4⟩, by simp [h5]⟩
    rw [List.mapM_cons]
    cases r with
    | tmp t => rw [hf1]; simp only [Sem.run_bind, h1, Result.andThen_ok, h3, Sem.run_pure]
    | cell x t => rw [hf2]; simp only [Sem.run_bind] at h1 ⊢; simp only [h1, Result.andThen_ok, h3, Sem.run_pure]
   ·simp at h
  ·simp at h
 | .agg wl :: ws, r :: rvs, k, rs, h => by
  simp only [retCs] at h
  split at h
  ·rename_i l hl
   split at h
   ·rename_i x xs e1 e2
    simp only [Option.some.injEq] at h
    subst h
    obtain ⟨y, h1, h2⟩ := resAV_run hT hA hl
    obtain ⟨ys, h3, h4, h5⟩ := retCs_run hT hA f hf1 hf2 e2
    obtain ⟨arr, rfl, h2⟩ := h2
    obtain ⟨a1, a2⟩ := retLs_run hA.mr e1 h2
    refine ⟨.agg arr :: ys, ?_, ⟨⟨arr, rfl, a1⟩, by rw [a2]; exact h4⟩, by simp [h5]⟩
    rw [List.mapM_cons]
    cases r with
    | tmp t => rw [hf1]; simp only [Sem.run_bind, h1, Result.andThen_ok, h3, Sem.run_pure]
    | cell x t => rw [hf2]; simp only [Sem.run_bind] at h1 ⊢; simp only [h1, Result.andThen_ok, h3, Sem.run_pure]
   ·simp at h
  ·simp at h
theorem pos_lt : ∀ {ids : List (Option Nat)} {i k : Nat}, pos ids i = some k → k < ids.length
 | [], _, _, h => by simp [pos] at h
 | o :: l, i, k, h => by
  simp only [pos] at h
  cases hc : (match o with | some j => Nat.beq j i | none => false) with
  | true => rw [hc] at h; simp only [cond_true, Option.some.injEq] at h; subst h; simp
  | false =>
   rw [hc] at h
   simp only [cond_false, Option.map_eq_some_iff] at h
   obtain ⟨k', h1, rfl⟩ := h
   have := pos_lt h1
   simp; omega
def retQ (T : Tab) (rvs : List ResultVar) (ws : List WC) (rs : List RC) : Exit → St → Prop
 | .normal, s | .ret, s => ∃ ids, retCs T s ids 0 ws rvs = some rs ∧ ids.length ≤ cntC rs
 | _, _ => False
theorem HC.intro {f : FuncId} {fn : Func} {c : Code} {ps : List AV} {rs : List RC} (ws : List WC) (hT : TabOk P T) (hf : P.funcs[f]? = some fn) (hb : fn.body = some c) (hn : ps.length ≤ fn.ntmps) (hg : fn.ntmps ≤ gb)
  (h : ∀ w0 E0, Tabs P w0 E0.toEnv → VW P fn.ntmps w0 E0 c (retQ T fn.results.toList ws rs) ⟨argSl 0 ps, []⟩) : HC P f ps rs := by
 intro w E args hκ hlt ht hargs
 refine calls_of_wp hf hb ?_
 have hal := hargs.length
 simp only [Array.length_toList] at hal
 have hs : SRel fn.ntmps w ⟨E, fun _ => undef⟩ ⟨argSl 0 ps, []⟩ { tmps := args ++ Array.replicate (fn.ntmps - args.size) undef, defers := [] } w := by
  refine ⟨⟨by simp; omega, hg⟩, rfl, fun b _ => hκ b, E, fun _ => undef, ⟨fun b _ => hκ b, hlt, fun b hb => absurd (hκ b) hb, fun b r q hq => by rw [hκ] at hq; simp at hq, fun id blk hi => by simp at hi⟩, Ext.refl w E, fun k v hv => ?_⟩
  obtain ⟨_, h2⟩ := argSl_look ps 0 k v hv
  simp only [Nat.sub_zero] at h2
  obtain ⟨y, h3, h4⟩ := hargs.get k v h2
  refine ⟨y, ?_, h4⟩
  have hk := (List.getElem?_eq_some_iff.1 h3).1
  simp only [Array.length_toList] at hk
  rw [getS_lt (by omega), Array.getElem?_append_left hk, ← Array.getElem?_toList]
  exact h3
 refine wp_mono (h w ⟨E, fun _ => undef⟩ ht _ _ hs) ?_
 rintro e a' w' ⟨s', h1, h2⟩
 have fin : (∃ ids, retCs T s' ids 0 ws fn.results.toList = some rs ∧ ids.length ≤ cntC rs) → a'.defers = [] ∧ ∃ v, (results fn a'.tmps).run P w' = .ok v w' ∧ ∃ y E', Ending.returned v = .returned y ∧ Ext w E w' E' ∧ (∀ b, E'.S b → E'.κ b = none) ∧ (∀ b, E'.S b → b < w'.heap.size) ∧ (∀ b, E'.κ b ≠ none → b < w'.heap.size) ∧
   (∀ b r q, E'.κ b = some (r, q) → ∃ n, r = .res n ∧ n < cntC rs) ∧ RR w' E' rs y := by
  rintro ⟨ids, hr, hlen⟩
  obtain ⟨E1, μ, hA⟩ := h1.at
  refine ⟨hA.defers, ?_⟩
  obtain ⟨ys, h3, h4, h5⟩ := retCs_run (ids := ids) (k := 0) hT hA (fun
   | .tmp t => pure (a'.tmps.getD t undef)
   | .cell a t => do loadVar t (← asAddr (a'.tmps.getD a undef))) (fun _ => rfl) (fun _ _ => rfl) hr
  have key : ∀ F : ResultVar → Sem Value, (∀ t, F (.tmp t) = pure (a'.tmps.getD t undef)) → (∀ x t, F (.cell x t) = (do loadVar t (← asAddr (a'.tmps.getD x undef)))) → (fn.results.toList.mapM F).run P w' = .ok ys w' := by
   intro F g1 g2
   have e : F = (fun
     | .tmp t => pure (a'.tmps.getD t undef)
     | .cell a t => do loadVar t (← asAddr (a'.tmps.getD a undef))) := by
    funext r
    cases r with
    | tmp t => exact g1 t
    | cell x t => exact g2 x t
   rw [e]
   exact h3
  have hrun : (results fn a'.tmps).run P w' = .ok (if h : ys.length = 1 then ys[0] else .tuple ys.toArray) w' := by
   unfold results
   rw [show fn.results = fn.results.toList.toArray by simp, List.mapM_toArray]
   simp only [Sem.run_bind, Sem.run_map]
   rw [key]
   ·by_cases hl : ys.length = 1
    ·simp [hl]
    ·simp [hl]
   ·intro t; rfl
   ·intro x t; rfl
  have hκ1 : ∀ b r q, (retE E1 ids).κ b = some (r, q) → ∃ n, r = .res n ∧ n < cntC rs := by
   intro b r q hq
   simp only [retE] at hq
   split at hq
   ·rename_i i q' hi
    simp only [Option.map_eq_some_iff, Prod.mk.injEq] at hq
    obtain ⟨k, hk, rfl, rfl⟩ := hq
    exact ⟨k, rfl, Nat.lt_of_lt_of_le (pos_lt hk) hlen⟩
   ·simp at hq
  have hκ2 : ∀ b, (retE E1 ids).κ b ≠ none → E1.κ b ≠ none := by
   intro b hb e
   simp only [retE, e] at hb
   exact hb rfl
  refine ⟨_, hrun, _, retE E1 ids, rfl, ?_, ?_, ?_, ?_, hκ1, ?_⟩
  ·have hX := hA.ext
   refine ⟨hX.os, hX.tape, hX.output, hX.size, hX.block, fun b hb => .inl (hX.grow b hb), fun b hb => ?_, fun b hb => hX.own b (hκ2 b hb)⟩
   rcases hb with hb | ⟨i, q, hq, _⟩
   ·exact hX.from_ b hb
   ·exact .inr (hX.own b (by simp [hq]))
  ·intro b hb
   rcases hb with hb | ⟨i, q, hq, hp⟩
   ·simp only [retE, hA.mr.apart b hb]
   ·simp only [retE, hq, hp, Option.map_none]
  ·intro b hb
   rcases hb with hb | ⟨i, q, hq, _⟩
   ·exact hA.mr.ltS b hb
   ·exact hA.mr.ltκ b (by simp [hq])
  ·exact fun b hb => hA.mr.ltκ b (hκ2 b hb)
  ·unfold RR
   split
   ·rename_i c
    have hl : ys.length = 1 := by simpa using h5
    obtain ⟨y, hy⟩ := List.length_eq_one_iff.1 hl
    subst hy
    simpa using h4
   ·rename_i hne
    have hl : ys.length ≠ 1 := by
     rw [h5]
     intro e
     match rs, e, hne with
     | [c], _, hne => exact hne c rfl
    exact ⟨ys.toArray, by simp [hl], by simpa using h4⟩
 cases e with
 | normal => exact fin h2
 | ret => exact fin h2
 | exit id => exact h2.elim
 | goto l => exact h2.elim
 | panic c => exact h2.elim
 | outgrown => exact h2.elim
end
end Go.Proofs.YtfegppjofphpfaaDoor.Vc
namespace Go.Proofs.YtfegppjofphpfaaDoor.Vc
open Go Go.RowKit
set_option linter.unusedVariables false
set_option linter.unusedSimpArgs false
structure Con (P : Program) (f : FuncId) (ps : List AV) (rs : List RC) : Prop where
 enters : ∀ (args : Array Value) (w : World), (callFunc f args).run P w = .ok (.enter f args) w
 calls : HC P f ps rs
theorem enters_of {P : Program} {f : FuncId} {fn : Func} {c : Code} (hf : P.funcs[f]? = some fn) (hb : fn.body = some c) (hn : fn.name ≠ "runtime.NumGoroutine") (args : Array Value) (w : World) :
  (callFunc f args).run P w = .ok (.enter f args) w := by
 simp [callFunc, hf, hb, hn]
inductive PT where
 | t (t : Ty)
 | k
 | clo (l : List PT)
def cellTys : Ty → List Ty
 | .pair a b => cellTys a ++ cellTys b
 | t => [t]
def fitL (br : Bool) (H : Heap) (t : Ty) (a : Lf) : Option Lf := cond (match a with | .hd .. => br | _ => true) (match retL H [] 0 (.v t) a with
 | some (.v t' x) => some (.v t' x)
 | _ => none) none
def fitLs (br : Bool) (H : Heap) : List Ty → List Lf → Option (List Lf)
 | [], [] => some []
 | t :: ts, a :: as => match fitL br H t a, fitLs br H ts as with
  | some x, some xs => some (x :: xs)
  | _, _ => none
 | _, _ => none
def fitS (br : Bool) (H : Heap) : PT → SV → Option SV
 | .t t, .lf a => cond t.isPair none ((fitL br H t a).map .lf)
 | .t t, .agg l => cond t.isPair ((fitLs br H (cellTys t) l).map .agg) none
 | .k, .lf (.fp t x j) => some (.lf (.fp t x j))
 | _, _ => none
def fitSs (br : Bool) (H : Heap) : List PT → List SV → Option (List SV)
 | [], [] => some []
 | t :: ts, a :: as => match fitS br H t a, fitSs br H ts as with
  | some x, some xs => some (x :: xs)
  | _, _ => none
 | _, _ => none
def fitA (br : Bool) (H : Heap) : PT → AV → Option AV
 | .t t, .lf a => cond t.isPair none ((fitL br H t a).map .lf)
 | .t t, .agg l => cond t.isPair ((fitLs br H (cellTys t) l).map .agg) none
 | .clo ts, .clo f l => (fitSs br H ts l).map (.clo f)
 | .k, .lf .nil => some (.lf .nil)
 | _, _ => none
def fitAs (br : Bool) (s : St) : List PT → List Operand → Option (List AV)
 | [], [] => some []
 | t :: ts, x :: xs => match opnd s.sl x with
  | some a => match fitA br s.H t a, fitAs br s ts xs with
   | some y, some ys => some (y :: ys)
   | _, _ => none
  | none => none
 | _, _ => none
def RL.selfish : RL → Bool
 | .v t _ => t.flat
 | .own e _ m => e.flat || decide (m = .dp)
def selfish : List RC → Bool
 | [] => true
 | c :: l => c.ls.all RL.selfish && selfish l
def rlLf (base : Nat) : Nat → List RL → List Lf
 | _, [] => []
 | k, .v t x :: l => .v t x :: rlLf base k l
 | k, .own e xs m :: l => .hd (base + k) 0 none :: rlLf base (k + 1) l
def rcSV (base : Nat) : Nat → List RC → List SV
 | _, [] => []
 | k, .lf (.v t x) :: l => .lf (.v t x) :: rcSV base k l
 | k, .lf (.own e xs m) :: l => .lf (.hd (base + k) 0 none) :: rcSV base (k + 1) l
 | k, .agg c :: l => .agg (rlLf base k c) :: rcSV base (k + cnt c) l
def resA (base : Nat) (rs : List RC) : AV := match rcSV base 0 rs with
 | [c] => svAV c
 | l => .tup l
def owns : List RL → Heap
 | [] => []
 | .v _ _ :: l => owns l
 | .own e xs m :: l => some (.arr 0 e xs m) :: owns l
def ownsC : List RC → Heap
 | [] => []
 | c :: l => owns c.ls ++ ownsC l
def ovals : List RL → List Value → List Value
 | .v _ _ :: l, _ :: ys => ovals l ys
 | .own _ _ _ :: l, y :: ys => y :: ovals l ys
 | _, _ => []
def cellsV : Value → List Value
 | .agg arr => arr.toList
 | v => [v]
def ovalsC : List RC → List Value → List Value
 | .lf a :: l, y :: ys => ovals [a] [y] ++ ovalsC l ys
 | .agg c :: l, y :: ys => ovals c (cellsV y) ++ ovalsC l ys
 | _, _ => []
def evCallee (s : St) (c : Call) : Option (FuncId × List SV) := match c.callee with
 | .value x => match opnd s.sl x with
  | some (.clo f l) => some (f, l)
  | _ => none
 | _ => none
def evArgs (br : Bool) (tys cts : List PT) (n : Nat) (s : St) (o : Oper) : Option (Option Nat × FuncId × List AV) :=
 match o.guard, o.op with
 | none, .call c => match evCallee s c with
  | some (f, l) => match fitAs br s tys c.args.toList, fitSs br s.H cts l with
   | some ps, some cs => match o.dst with
    | none => some (none, f, ps ++ cs.map svAV)
    | some d => cond (Nat.blt d n) (some (some d, f, ps ++ cs.map svAV)) none
   | _, _ => none
  | none => none
 | _, _ => none
def putA (o : Option Nat) (v : AV) (sl : List (Nat × AV)) : List (Nat × AV) := match o with
 | some d => (d, v) :: sl
 | none => sl
section
variable {P : Program} {T : Tab} {n : Nat} {w0 : World} {E0 : Env0} {s : St} {ops : Array Oper} {Q : Exit → St → Prop} {rest : List Oper}
variable {w w' : World} {E E' : Env} {μ μ' : Nat → Value} {H H' : Heap}
def brE (br : Bool) (E : Env) : Env := cond br (retE E []) ⟨E.S, fun _ => none⟩
theorem brE_S {br : Bool} {b : Nat} (h : E.S b) : (brE br E).S b := by
 cases br
 ·exact h
 ·exact .inl h
theorem brE_κ {br : Bool} {b : Nat} : (brE br E).κ b = none := by
 cases br
 ·rfl
 ·simp only [brE, retE, cond_true]
  cases h : E.κ b with
  | none => rfl
  | some x => obtain ⟨r, q⟩ := x; cases r <;> rfl
theorem fitL_run {br : Bool} {k : Nat} (hM : MR w E μ H k) {t : Ty} {a p : Lf} (h : fitL br H t a = some p) {y : Value} (hy : LR w E μ H a y) : LR w (brE br E) (fun _ => undef) [] p y := by
 unfold fitL at h
 cases hb : (match a with | .hd .. => br | _ => true) with
 | false => rw [hb] at h; simp at h
 | true =>
  rw [hb] at h
  simp only [cond_true] at h
  split at h
  ·rename_i t' x hr
   simp only [Option.some.injEq] at h
   subst h
   cases br with
   | true =>
    obtain ⟨x', h1, h2⟩ := (retL_run hM hr hy).1 t rfl
    simp only [RL.v.injEq] at h1
    obtain ⟨rfl, h1⟩ := h1
    cases h1
    exact h2
   | false =>
    cases a with
    | hd id ver rng => simp at hb
    | v t2 x2 =>
     simp only [retL] at hr
     split at hr
     ·rename_i ht
      subst ht
      simp only [Option.some.injEq, RL.v.injEq] at hr
      obtain ⟨rfl, hr⟩ := hr
      cases hr
      have hy' : Rep w E (.res 0) t2 x2 .fz (fun _ => .top) (at0 y) := hy
      exact Rep.fz (E := E) (E' := brE false E) (fun b hb => ⟨hb, rfl⟩) t2 x2 (fun _ _ _ h => h) hy'
     ·simp at hr
    | nil =>
     cases t with
     | sl e =>
      simp only [retL, Option.some.injEq, RL.v.injEq] at hr
      obtain ⟨rfl, hr⟩ := hr
      cases hr
      obtain ⟨ad, rfl⟩ := hy
      exact ⟨_, rfl, .inl ⟨rfl, .inl ⟨rfl, ad, 0, rfl⟩⟩⟩
     | _ => simp [retL] at hr
    | ptr id ver i j => cases t <;> simp [retL] at hr
    | fp t2 x2 j => cases t <;> simp [retL] at hr
    | any => cases t <;> simp [retL] at hr
  ·simp at h
theorem fitLs_run {br : Bool} {k : Nat} (hM : MR w E μ H k) : ∀ {ts : List Ty} {as ps : List Lf} {ys : List Value}, fitLs br H ts as = some ps → All2 (LR w E μ H) as ys → All2 (LR w (brE br E) (fun _ => undef) []) ps ys
 | [], [], ps, [], h, .nil => by
  simp only [fitLs, Option.some.injEq] at h
  subst h
  exact .nil
 | t :: ts, a :: as, ps, y :: ys, h, .cons h1 h2 => by
  simp only [fitLs] at h
  split at h
  ·rename_i x xs e1 e2
   simp only [Option.some.injEq] at h
   subst h
   exact .cons (fitL_run hM e1 h1) (fitLs_run hM e2 h2)
  ·simp at h
theorem fitS_run {br : Bool} {k : Nat} (hM : MR w E μ H k) {t : PT} {a p : SV} (h : fitS br H t a = some p) {y : Value} (hy : SR w E μ H a y) : SR w (brE br E) (fun _ => undef) [] p y := by
 unfold fitS at h
 split at h
 ·rename_i t a
  cases hp : t.isPair with
  | true => rw [hp] at h; simp at h
  | false =>
   rw [hp] at h
   simp only [cond_false, Option.map_eq_some_iff] at h
   obtain ⟨x, h1, rfl⟩ := h
   exact fitL_run hM h1 hy
 ·rename_i t l
  cases hp : t.isPair with
  | false => rw [hp] at h; simp at h
  | true =>
   rw [hp] at h
   simp only [cond_true, Option.map_eq_some_iff] at h
   obtain ⟨x, h1, rfl⟩ := h
   obtain ⟨arr, rfl, h2⟩ := hy
   exact ⟨arr, rfl, fitLs_run hM h1 h2⟩
 ·rename_i t x j
  simp only [Option.some.injEq] at h
  subst h
  obtain ⟨b, o, h1, h2, h3⟩ := hy
  exact ⟨b, o, h1, brE_S h2, Rep.fz (E := E) (E' := brE br E) (fun b hb => ⟨brE_S hb, rfl⟩) t x (fun _ _ _ h => h) h3⟩
 ·simp at h
theorem fitSs_run {br : Bool} {k : Nat} (hM : MR w E μ H k) : ∀ {ts : List PT} {as ps : List SV} {ys : List Value}, fitSs br H ts as = some ps → All2 (SR w E μ H) as ys → All2 (SR w (brE br E) (fun _ => undef) []) ps ys
 | [], [], ps, [], h, .nil => by
  simp only [fitSs, Option.some.injEq] at h
  subst h
  exact .nil
 | t :: ts, a :: as, ps, y :: ys, h, .cons h1 h2 => by
  simp only [fitSs] at h
  split at h
  ·rename_i x xs e1 e2
   simp only [Option.some.injEq] at h
   subst h
   exact .cons (fitS_run hM e1 h1) (fitSs_run hM e2 h2)
  ·simp at h
theorem fitA_run {br : Bool} {k : Nat} (hM : MR w E μ H k) {t : PT} {a p : AV} (h : fitA br H t a = some p) {y : Value} (hy : AR w E μ H a y) : AR w (brE br E) (fun _ => undef) [] p y := by
 unfold fitA at h
 split at h
 ·rename_i t a
  cases hp : t.isPair with
  | true => rw [hp] at h; simp at h
  | false =>
   rw [hp] at h
   simp only [cond_false, Option.map_eq_some_iff] at h
   obtain ⟨x, h1, rfl⟩ := h
   exact fitL_run hM h1 hy
 ·rename_i t l
  cases hp : t.isPair with
  | false => rw [hp] at h; simp at h
  | true =>
   rw [hp] at h
   simp only [cond_true, Option.map_eq_some_iff] at h
   obtain ⟨x, h1, rfl⟩ := h
   obtain ⟨arr, rfl, h2⟩ := hy
   exact ⟨arr, rfl, fitLs_run hM h1 h2⟩
 ·rename_i ts f l
  simp only [Option.map_eq_some_iff] at h
  obtain ⟨x, h1, rfl⟩ := h
  obtain ⟨arr, rfl, h2⟩ := hy
  exact ⟨arr, rfl, fitSs_run hM h1 h2⟩
 ·simp only [Option.some.injEq] at h
  subst h
  exact hy
 ·simp at h
theorem fitAs_run {br : Bool} {a : Act} (hA : At n w0 E0 s a w E μ) : ∀ {ts : List PT} {xs : List Operand} {ps : List AV}, fitAs br s ts xs = some ps → All2 (AR w (brE br E) (fun _ => undef) []) ps (xs.map a.eval)
 | [], [], ps, h => by
  simp only [fitAs, Option.some.injEq] at h
  subst h
  exact .nil
 | t :: ts, x :: xs, ps, h => by
  simp only [fitAs] at h
  split at h
  ·rename_i v hv
   split at h
   ·rename_i y ys e1 e2
    simp only [Option.some.injEq] at h
    subst h
    exact .cons (fitA_run hA.mr e1 (hA.opnd hv)) (fitAs_run hA e2)
   ·simp at h
  ·simp at h
theorem Rep.noS : ∀ {t : Ty} {x : t.den} {m : Md} {r : Root} {p : Nat → Pos} {g : Nat → Option Value} {S : Nat → Prop}, (m = .dp ∨ t.flat = true) → Rep w E r t x m p g → Rep w ⟨S, E.κ⟩ r t x m p g
 | .int _, _, _, _, _, _, _, _, h => h
 | .bool, _, _, _, _, _, _, _, h => h
 | .str, _, _, _, _, _, _, _, h => h
 | .pair a b, x, m, _, _, _, _, hf, h => by
  have h1 : m = .dp ∨ a.flat = true := by
   rcases hf with hf | hf
   ·exact .inl hf
   ·simp only [Ty.flat, Bool.and_eq_true] at hf; exact .inr hf.1
  have h2 : m = .dp ∨ b.flat = true := by
   rcases hf with hf | hf
   ·exact .inl hf
   ·simp only [Ty.flat, Bool.and_eq_true] at hf; exact .inr hf.2
  exact ⟨Rep.noS h1 h.1, Rep.noS h2 h.2⟩
 | .sl t, xs, m, _, _, _, _, hf, h => by
  have hm : m = .dp := by
   rcases hf with hf | hf
   ·exact hf
   ·simp [Ty.flat] at hf
  subst hm
  obtain ⟨v, h0, h⟩ := h
  refine ⟨v, h0, ?_⟩
  rcases h with ⟨hm, _⟩ | ⟨hm, h⟩
  ·simp at hm
  ·refine .inr ⟨hm, ?_⟩
   rcases h with h | ⟨b, c, arr, ty, hv, hc, hb, hs, hk, h⟩
   ·exact .inl h
   ·exact .inr ⟨b, c, arr, ty, hv, hc, hb, hs, hk, fun i hi => Rep.noS (.inl rfl) (h i hi)⟩
theorem Rep.noS_sl {e : Ty} {xs : List e.den} {m : Md} {r : Root} {p : Nat → Pos} {g : Nat → Option Value} {S : Nat → Prop} (hf : e.flat = true ∨ m = .dp) (h : m ≠ .fz) (hr : Rep w E r (.sl e) xs m p g) : Rep w ⟨S, E.κ⟩ r (.sl e) xs m p g := by
 obtain ⟨v, h0, hr⟩ := hr
 refine ⟨v, h0, ?_⟩
 rcases hr with ⟨hm, _⟩ | ⟨hm, hr⟩
 ·exact absurd hm h
 ·refine .inr ⟨hm, ?_⟩
  rcases hr with hr | ⟨b, c, arr, ty, hv, hc, hb, hs, hk, hr⟩
  ·exact .inl hr
  ·refine .inr ⟨b, c, arr, ty, hv, hc, hb, hs, hk, fun i hi => Rep.noS ?_ (hr i hi)⟩
   rcases hf with hf | rfl
   ·exact .inr hf
   ·exact .inl rfl
theorem owns_length : ∀ ls : List RL, (owns ls).length = cnt ls
 | [] => rfl
 | .v _ _ :: l => by simp [owns, cnt, owns_length l]
 | .own _ _ _ :: l => by simp [owns, cnt, owns_length l]
theorem ownsC_length : ∀ rs : List RC, (ownsC rs).length = cntC rs
 | [] => rfl
 | c :: l => by simp [ownsC, cntC, owns_length, ownsC_length l]
theorem ovals_length : ∀ {k : Nat} {ls : List RL} {ys : List Value}, RLs w E k ls ys → (ovals ls ys).length = cnt ls
 | _, [], [], _ => rfl
 | _, .v _ _ :: l, _ :: ys, h => by simp [ovals, cnt, ovals_length h.2]
 | _, .own _ _ _ :: l, _ :: ys, h => by simp [ovals, cnt, ovals_length h.2]
 | _, [], _ :: _, h => h.elim
 | _, .v _ _ :: _, [], h => h.elim
 | _, .own _ _ _ :: _, [], h => h.elim
theorem RLs_LR {base : Nat} {sel : Bool} (hS : sel = false → ∀ b, E.S b → E'.S b) : ∀ {k : Nat} {ls : List RL} {ys : List Value}, RLs w E k ls ys → (sel = true → ls.all RL.selfish = true) →
  (∀ (i : Nat) b, (owns ls)[i]? = some b → H[base + (k + i)]? = some b ∧ (ovals ls ys)[i]? = some (μ (base + (k + i)))) → All2 (LR w E' μ H) (rlLf base k ls) ys
 | _, [], [], _, _, _ => .nil
 | k, .v t x :: l, y :: ys, h, hs, hg => by
  refine .cons ?_ (RLs_LR hS h.2 (fun e => by have := hs e; simp at this; simp; exact this.2) (fun i b hi => hg i b hi))
  cases sel with
  | true =>
   have hf := hs rfl
   simp only [List.all_cons, RL.selfish, Bool.and_eq_true] at hf
   exact Rep.flat hf.1 h.1
  | false => exact Rep.fz (fun b hb => ⟨hS rfl b hb, rfl⟩) t x (fun _ _ _ h => h) h.1
 | k, .own e xs m :: l, y :: ys, h, hs, hg => by
  obtain ⟨g1, g2⟩ := hg 0 _ rfl
  refine .cons ?_ (RLs_LR hS h.2 (fun e => by have := hs e; simp at this; simp; exact this.2) (fun i b hi => ?_))
  ·simp only [ovals, List.getElem?_cons_zero, Option.some.injEq, Nat.add_zero] at g2
   simp only [Nat.add_zero] at g1
   have h1 : y.oneCell' = true := rep_sl_one h.1.2 (by simp [at0])
   simp only [LR, g1, HdR, h1, true_and, Nat.le_refl]
   intro _
   exact g2
  ·have := hg (i + 1) b (by simpa [owns] using hi)
   rw [show base + (k + 1 + i) = base + (k + (i + 1)) by omega]
   simpa [ovals] using this
 | _, [], _ :: _, h, _, _ => h.elim
 | _, .v _ _ :: _, [], h, _, _ => h.elim
 | _, .own _ _ _ :: _, [], h, _, _ => h.elim
theorem RLs_NB : ∀ {k : Nat} {ls : List RL} {ys : List Value}, RLs w E k ls ys → ∀ (i : Nat) b, (owns ls)[i]? = some b → ∃ e xs m v, b = some (.arr 0 e xs m) ∧ (ovals ls ys)[i]? = some v ∧ m ≠ .fz ∧ Rep w E (.res (k + i)) (.sl e) xs m (fun _ => .top) (at0 v) ∧ (ls.all RL.selfish = true → e.flat = true ∨ m = .dp)
 | _, [], [], _, i, b, hi => by simp [owns] at hi
 | k, .v t x :: l, y :: ys, h, i, b, hi => by
  obtain ⟨e, xs, m, v, h1, h2, h3, h4, h5⟩ := RLs_NB h.2 i b hi
  exact ⟨e, xs, m, v, h1, h2, h3, h4, fun hs => h5 (by simp at hs; simp; exact hs.2)⟩
 | k, .own e xs m :: l, y :: ys, h, 0, b, hi => by
  simp only [owns, List.getElem?_cons_zero, Option.some.injEq] at hi
  exact ⟨e, xs, m, y, hi.symm, rfl, h.1.1, h.1.2, fun hs => by simp [RL.selfish] at hs; exact hs.1⟩
 | k, .own e xs m :: l, y :: ys, h, i + 1, b, hi => by
  obtain ⟨e, xs, m, v, h1, h2, h3, h4, h5⟩ := RLs_NB h.2 i b (by simpa [owns] using hi)
  exact ⟨e, xs, m, v, h1, by simpa [ovals] using h2, h3, by rw [show k + (i + 1) = k + 1 + i by omega]; exact h4, fun hs => h5 (by simp at hs; simp; exact hs.2)⟩
 | _, [], _ :: _, h, _, _, _ => h.elim
 | _, .v _ _ :: _, [], h, _, _, _ => h.elim
 | _, .own _ _ _ :: _, [], h, _, _, _ => h.elim
theorem RCs_NB : ∀ {k : Nat} {rs : List RC} {ys : List Value}, RCs w E k rs ys → ∀ (i : Nat) b, (ownsC rs)[i]? = some b → ∃ e xs m v, b = some (.arr 0 e xs m) ∧ (ovalsC rs ys)[i]? = some v ∧ m ≠ .fz ∧ Rep w E (.res (k + i)) (.sl e) xs m (fun _ => .top) (at0 v) ∧ (selfish rs = true → e.flat = true ∨ m = .dp)
 | _, [], [], _, i, b, hi => by simp [ownsC] at hi
 | k, c :: l, y :: ys, h, i, b, hi => by
  have key : ∀ vs : List Value, RLs w E k c.ls vs → RCs w E (k + cnt c.ls) l ys → ∃ e xs m v, b = some (.arr 0 e xs m) ∧ (ovals c.ls vs ++ ovalsC l ys)[i]? = some v ∧ m ≠ .fz ∧ Rep w E (.res (k + i)) (.sl e) xs m (fun _ => .top) (at0 v) ∧ (selfish (c :: l) = true → e.flat = true ∨ m = .dp) := by
   intro vs h1 h2
   simp only [ownsC] at hi
   by_cases hlt : i < cnt c.ls
   ·rw [List.getElem?_append_left (by rw [owns_length]; exact hlt)] at hi
    obtain ⟨e, xs, m, v, a1, a2, a3, a4, a5⟩ := RLs_NB h1 i b hi
    refine ⟨e, xs, m, v, a1, ?_, a3, a4, fun hs => a5 ?_⟩
    ·rw [List.getElem?_append_left (by rw [ovals_length h1]; exact hlt)]
     exact a2
    ·simp only [selfish, Bool.and_eq_true] at hs
     exact hs.1
   ·rw [List.getElem?_append_right (by rw [owns_length]; omega), owns_length] at hi
    obtain ⟨e, xs, m, v, a1, a2, a3, a4, a5⟩ := RCs_NB h2 _ b hi
    refine ⟨e, xs, m, v, a1, ?_, a3, ?_, fun hs => a5 ?_⟩
    ·rw [List.getElem?_append_right (by rw [ovals_length h1]; omega), ovals_length h1]
     exact a2
    ·rw [show k + cnt c.ls + (i - cnt c.ls) = k + i by omega] at a4
     exact a4
    ·simp only [selfish, Bool.and_eq_true] at hs
     exact hs.2
  cases c with
  | lf a => exact key [y] h.1 h.2
  | agg c =>
   obtain ⟨⟨arr, rfl, h1⟩, h2⟩ := h
   exact key arr.toList h1 h2
 | _, [], _ :: _, h, _, _, _ => h.elim
 | _, .lf _ :: _, [], h, _, _, _ => h.elim
 | _, .agg _ :: _, [], h, _, _, _ => h.elim
theorem RCs_SR {base : Nat} {sel : Bool} (hS : sel = false → ∀ b, E.S b → E'.S b) : ∀ {k : Nat} {rs : List RC} {ys : List Value}, RCs w E k rs ys → (sel = true → selfish rs = true) →
  (∀ (i : Nat) b, (ownsC rs)[i]? = some b → H[base + (k + i)]? = some b ∧ (ovalsC rs ys)[i]? = some (μ (base + (k + i)))) → All2 (SR w E' μ H) (rcSV base k rs) ys
 | _, [], [], _, _, _ => .nil
 | k, c :: l, y :: ys, h, hs, hg => by
  have hs1 : sel = true → c.ls.all RL.selfish = true := fun e => by have := hs e; simp only [selfish, Bool.and_eq_true] at this; exact this.1
  have hs2 : sel = true → selfish l = true := fun e => by have := hs e; simp only [selfish, Bool.and_eq_true] at this; exact this.2
  have key : ∀ vs : List Value, RLs w E k c.ls vs → RCs w E (k + cnt c.ls) l ys → ovalsC (c :: l) (y :: ys) = ovals c.ls vs ++ ovalsC l ys → All2 (LR w E' μ H) (rlLf base k c.ls) vs ∧ All2 (SR w E' μ H) (rcSV base (k + cnt c.ls) l) ys := by
   intro vs h1 h2 he
   constructor
   ·refine RLs_LR hS h1 hs1 (fun i b hi => ?_)
    have hlt := (List.getElem?_eq_some_iff.1 hi).1
    rw [owns_length] at hlt
    have := hg i b (by simp only [ownsC]; rw [List.getElem?_append_left (by rw [owns_length]; exact hlt)]; exact hi)
    rw [he, List.getElem?_append_left (by rw [ovals_length h1]; exact hlt)] at this
    exact this
   ·refine RCs_SR hS h2 hs2 (fun i b hi => ?_)
    have := hg (cnt c.ls + i) b (by simp only [ownsC]; rw [List.getElem?_append_right (by rw [owns_length]; omega), owns_length, Nat.add_sub_cancel_left]; exact hi)
    rw [he, List.getElem?_append_right (by rw [ovals_length h1]; omega), ovals_length h1, Nat.add_sub_cancel_left] at this
    rw [show k + cnt c.ls + i = k + (cnt c.ls + i) by omega]
    exact this
  cases c with
  | lf a =>
   obtain ⟨a1, a2⟩ := key [y] h.1 h.2 rfl
   cases a with
   | v t x =>
    simp only [RC.ls, rlLf] at a1
    obtain _ | ⟨a1, _⟩ := a1
    exact .cons a1 a2
   | own e xs m =>
    simp only [RC.ls, rlLf] at a1
    obtain _ | ⟨a1, _⟩ := a1
    exact .cons a1 a2
  | agg c =>
   obtain ⟨⟨arr, rfl, h1⟩, h2⟩ := h
   obtain ⟨a1, a2⟩ := key arr.toList h1 h2 rfl
   exact .cons ⟨arr, rfl, a1⟩ a2
 | _, [], _ :: _, h, _, _ => h.elim
 | _, .lf _ :: _, [], h, _, _ => h.elim
 | _, .agg _ :: _, [], h, _, _ => h.elim
def backE (br : Bool) (E E' : Env) (base : Nat) : Env := ⟨cond br E.S E'.S, fun b => match E'.κ b with
 | some (.res k, q) => some (.id (base + k), q)
 | _ => E.κ b⟩
def backμ (μ : Nat → Value) (base : Nat) (vs : List Value) : Nat → Value := fun i => if i < base then μ i else vs.getD (i - base) undef
theorem backμ_old {base : Nat} {vs : List Value} {i : Nat} (h : i < base) : backμ μ base vs i = μ i := by simp [backμ, h]
theorem backμ_new {base : Nat} {vs : List Value} {i : Nat} {v : Value} (h : vs[i]? = some v) : backμ μ base vs (base + i) = v := by
 simp only [backμ, List.getD, show ¬ base + i < base by omega, if_false, Nat.add_sub_cancel_left, h, Option.getD_some]
theorem MR.back {br : Bool} {rs : List RC} {ys : List Value} (hM : MR w E μ H 0) (hX : Ext w (brE br E) w' E') (hap : ∀ b, E'.S b → E'.κ b = none) (hlS : ∀ b, E'.S b → b < w'.heap.size) (hlκ : ∀ b, E'.κ b ≠ none → b < w'.heap.size)
  (hro : ∀ b r q, E'.κ b = some (r, q) → ∃ n, r = .res n ∧ n < cntC rs) (hR : RCs w' E' 0 rs ys) (hsel : br = true → selfish rs = true) :
  MR w' (backE br E E' H.length) (backμ μ H.length (ovalsC rs ys)) (H ++ ownsC rs) 0 ∧ Ext w E w' (backE br E E' H.length) ∧ (∀ b, E.S b → (backE br E E' H.length).S b ∧ w'.heap[b]? = w.heap[b]?) ∧ KpH μ (backμ μ H.length (ovalsC rs ys)) H (H ++ ownsC rs) ∧
   All2 (SR w' (backE br E E' H.length) (backμ μ H.length (ovalsC rs ys)) (H ++ ownsC rs)) (rcSV H.length 0 rs) ys := by
 have hnew : ∀ b, E'.κ b ≠ none → w.heap.size ≤ b := fun b hb => by
  rcases hX.own b hb with h | h
  ·exact absurd brE_κ h
  ·exact h
 have hold : ∀ b, E.κ b ≠ none → E'.κ b = none := fun b hb => by
  cases h : E'.κ b with
  | none => rfl
  | some x => have h1 := hnew b (by simp [h]); have h2 := hM.ltκ b hb; omega
 have hkeep : ∀ b, b < w.heap.size → w'.heap[b]? = w.heap[b]? := fun b hb => hX.block b hb brE_κ
 have hS : ∀ b, E.S b → (backE br E E' H.length).S b ∧ w'.heap[b]? = w.heap[b]? := fun b hb => by
  refine ⟨?_, hkeep b (hM.ltS b hb)⟩
  cases br
  ·exact hX.grow b hb
  ·exact hb
 have hSn : ∀ b, (backE br E E' H.length).S b → E.S b ∨ (br = false ∧ E'.S b ∧ w.heap.size ≤ b) := by
  intro b hb
  cases br with
  | true => exact .inl hb
  | false =>
   rcases hX.from_ b hb with h | h | h
   ·exact .inl h
   ·exact absurd brE_κ h
   ·exact .inr ⟨rfl, hb, h⟩
 have hκκ : ∀ b i q, E.κ b = some (.id i, q) → (backE br E E' H.length).κ b = some (.id i, q) := by
  intro b i q h
  simp only [backE, hold b (by simp [h]), h]
 have hKp : KpH μ (backμ μ H.length (ovalsC rs ys)) H (H ++ ownsC rs) := by
  intro i c hc
  have hlt := (List.getElem?_eq_some_iff.1 hc).1
  refine ⟨c, by rw [List.getElem?_append_left hlt]; exact hc, ?_⟩
  rw [backμ_old hlt]
  exact Kp.refl _ _
 have hgiven : ∀ (i : Nat) b, (ownsC rs)[i]? = some b → (H ++ ownsC rs)[H.length + (0 + i)]? = some b ∧ (ovalsC rs ys)[i]? = some (backμ μ H.length (ovalsC rs ys) (H.length + (0 + i))) := by
  intro i b hi
  rw [Nat.zero_add]
  constructor
  ·rw [List.getElem?_append_right (by omega), Nat.add_sub_cancel_left]
   exact hi
  ·obtain ⟨e, xs, m, v, _, h2, _⟩ := RCs_NB hR i b hi
   rw [backμ_new h2]
   exact h2
 refine ⟨?_, ?_, hS, hKp, RCs_SR (sel := br) (fun e b hb => by subst e; exact hb) hR hsel hgiven⟩
 ·refine MR.step hM ?_ ?_ ?_ ?_ hS hKp ?_
  ·intro b hb
   rcases hSn b hb with h | ⟨rfl, h1, h2⟩
   ·have h0 := hM.apart b h
    have : E'.κ b = none := by
     cases hk : E'.κ b with
     | none => rfl
     | some x => have := hnew b (by simp [hk]); have := hM.ltS b h; omega
    simp only [backE, this, h0]
   ·simp only [backE, hap b h1]
    cases hk : E.κ b with
    | none => rfl
    | some x => have := hM.ltκ b (by simp [hk]); omega
  ·intro b hb
   rcases hSn b hb with h | ⟨_, h1, _⟩
   ·have := hM.ltS b h; have := hX.size; omega
   ·exact hlS b h1
  ·intro b hb
   simp only [backE] at hb
   split at hb
   ·rename_i k q hk
    exact hlκ b (by simp [hk])
   ·have := hM.ltκ b hb; have := hX.size; omega
  ·intro b r q hb
   simp only [backE] at hb
   split at hb
   ·rename_i k q' hk
    simp only [Option.some.injEq, Prod.mk.injEq] at hb
    obtain ⟨n, hn, hlt⟩ := hro b _ _ hk
    simp only [Root.res.injEq] at hn
    subst hn
    exact .inl ⟨_, hb.1.symm, by rw [List.length_append, ownsC_length]; omega⟩
   ·rcases hM.roots b r q hb with ⟨m, h1, h2⟩ | h1
    ·exact .inl ⟨m, h1, by rw [List.length_append]; omega⟩
    ·exact .inr h1
  ·intro id blk h
   by_cases hid : id < H.length
   ·rw [List.getElem?_append_left hid] at h
    exact .inl ⟨h, backμ_old hid, fun b q hq => ⟨hκκ b id q hq, hkeep b (hM.ltκ b (by simp [hq]))⟩⟩
   ·rw [List.getElem?_append_right (by omega)] at h
    obtain ⟨e, xs, m, v, h1, h2, h3, h4, h5⟩ := RCs_NB hR _ _ h
    simp only [Option.some.injEq] at h1
    subst h1
    refine .inr ⟨h3, ?_⟩
    have hid' : H.length + (id - H.length) = id := by omega
    have hv : backμ μ H.length (ovalsC rs ys) id = v := by rw [← hid']; exact backμ_new h2
    rw [hv]
    have mv : ∀ S : Nat → Prop, (∀ b, S b → (backE br E E' H.length).S b) → Rep w' ⟨S, E'.κ⟩ (.res (id - H.length)) (.sl e) xs m (fun _ => .top) (at0 v) → Rep w' (backE br E E' H.length) (.id id) (.sl e) xs m (fun _ => .top) (at0 v) := by
     intro S hS2 hr
     refine Rep.move (E := ⟨S, E'.κ⟩) (fun _ => True) (fun q => q) (fun b hb => ⟨hS2 b hb, rfl⟩) (fun b q _ hq => ⟨?_, rfl, fun _ => ⟨trivial, rfl⟩⟩) (.sl e) xs m _ _ _ _ (fun _ => ⟨fun _ => trivial, fun _ => rfl⟩) (fun _ _ _ h => h) hr
     simp only [backE]
     rw [show E'.κ b = some (.res (id - H.length), q) from hq]
     simp only [hid']
    rw [Nat.zero_add] at h4
    cases br with
    | false => exact mv E'.S (fun b hb => hb) h4
    | true => exact mv (fun _ => False) (fun b hb => hb.elim) (Rep.noS_sl (h5 (hsel rfl)) h3 h4)
 ·refine ⟨hX.os, hX.tape, hX.output, hX.size, fun b hb _ => hkeep b hb, fun b hb => (hS b hb).1, fun b hb => ?_, fun b hb => ?_⟩
  ·rcases hSn b hb with h | ⟨_, _, h⟩
   ·exact .inl h
   ·exact .inr (.inr h)
  ·simp only [backE] at hb
   split at hb
   ·rename_i k q hk
    exact .inr (hnew b (by simp [hk]))
   ·exact .inl hb
theorem resA_of {base : Nat} {rs : List RC} {y : Value} (hR : RR w' E' rs y) {C : Prop} (fin : ∀ ys, RCs w' E' 0 rs ys → (∀ μ2 E2 H2, All2 (SR w' E2 μ2 H2) (rcSV base 0 rs) ys → AR w' E2 μ2 H2 (resA base rs) y) → C) : C := by
 unfold RR at hR
 split at hR
 ·rename_i c1
  refine fin [y] hR (fun μ2 E2 H2 h2 => ?_)
  unfold resA
  cases c1 with
  | lf a1 =>
   cases a1 with
   | v t x => simp only [rcSV] at h2 ⊢; obtain _ | ⟨h2, _⟩ := h2; exact h2
   | own e xs m => simp only [rcSV] at h2 ⊢; obtain _ | ⟨h2, _⟩ := h2; exact h2
  | agg l1 => simp only [rcSV] at h2 ⊢; obtain _ | ⟨h2, _⟩ := h2; exact h2
 ·rename_i hne
  obtain ⟨arr2, rfl, hR⟩ := hR
  refine fin arr2.toList hR (fun μ2 E2 H2 h2 => ?_)
  unfold resA
  split
  ·rename_i c1 hc1
   exfalso
   have : ∀ (k : Nat) (rs : List RC), (rcSV base k rs).length = rs.length := by
    intro k rs
    induction rs generalizing k with
    | nil => rfl
    | cons c l ih =>
     cases c with
     | lf a1 => cases a1 <;> simp [rcSV, ih]
     | agg l1 => simp [rcSV, ih]
   have h3 := this 0 rs
   rw [hc1] at h3
   match rs, h3, hne with
   | [c], _, hne => exact hne c rfl
  ·exact ⟨arr2, rfl, h2⟩
theorem VO.call (br : Bool) (tys cts : List PT) {o : Oper} {d : Option Nat} {f : FuncId} {ps : List AV} {rs : List RC} (hT : TabOk P T) (h : evArgs br tys cts n s o = some (d, f, ps)) (hc : Con P f ps rs) (hsel : (cond br (selfish rs) true) = true)
  (k : VO P n w0 E0 ops Q rest ⟨putA d (resA s.H.length rs) s.sl, s.H ++ ownsC rs⟩) (ht : Tabs P w0 E0.toEnv := by assumption) : VO P n w0 E0 ops Q (o :: rest) s := by
 intro a w hs
 obtain ⟨E, μ, hA⟩ := hs.at
 unfold evArgs at h
 split at h
 ·rename_i c hg ho
  split at h
  ·rename_i f' l hcal
   split at h
   ·rename_i ps' cs' hps hcs
    -- the callee
    obtain ⟨x, arr, hx1, hx2, hx3⟩ : ∃ x arr, c.callee = .value x ∧ a.eval x = .func (.func f') #[] arr ∧ All2 (SR w E μ s.H) l arr.toList := by
     unfold evCallee at hcal
     split at hcal
     ·rename_i x hx
      split at hcal
      ·rename_i f2 l2 hv
       simp only [Option.some.injEq, Prod.mk.injEq] at hcal
       obtain ⟨rfl, rfl⟩ := hcal
       obtain ⟨arr, h1, h2⟩ := hA.opnd hv
       exact ⟨x, arr, hx, h1, h2⟩
      ·simp at hcal
     ·simp at hcal
    have hfin : f' = f ∧ ps = ps' ++ cs'.map svAV ∧ o.dst = d ∧ (∀ d', d = some d' → d' < n) := by
     split at h
     ·rename_i hd
      simp only [Option.some.injEq, Prod.mk.injEq] at h
      obtain ⟨rfl, rfl, rfl⟩ := h
      exact ⟨rfl, rfl, hd, by simp⟩
     ·rename_i d' hd
      cases hb : Nat.blt d' n with
      | false => rw [hb] at h; simp at h
      | true =>
       rw [hb] at h
       simp only [cond_true, Option.some.injEq, Prod.mk.injEq] at h
       obtain ⟨rfl, rfl, rfl⟩ := h
       refine ⟨rfl, rfl, hd, fun d2 e => ?_⟩
       simp only [Option.some.injEq] at e
       subst e
       simpa [Nat.blt_eq] using hb
    obtain ⟨rfl, rfl, hd, hdn⟩ := hfin
    have hsel' : br = true → selfish rs = true := fun e => by subst e; exact hsel
    have hargs : All2 (AR w (brE br E) (fun _ => undef) []) (ps' ++ cs'.map svAV) (c.args.map a.eval ++ arr).toList := by
     rw [Array.toList_append, Array.toList_map]
     refine (fitAs_run hA hps).append ?_
     have h2 := fitSs_run (br := br) hA.mr hcs hx3
     have : ∀ {xs : List SV} {ys : List Value}, All2 (SR w (brE br E) (fun _ => undef) []) xs ys → All2 (AR w (brE br E) (fun _ => undef) []) (xs.map svAV) ys := by
      intro xs ys h
      induction h with
      | nil => exact .nil
      | cons h1 _ ih => exact .cons (svAV_AR h1) ih
     exact this h2
    have hlt : ∀ b, (brE br E).S b → b < w.heap.size := by
     intro b hb
     cases br with
     | false => exact hA.mr.ltS b hb
     | true =>
      rcases hb with hb | ⟨i, q, hq, _⟩
      ·exact hA.mr.ltS b hb
      ·exact hA.mr.ltκ b (by simp [hq])
    have hcall := hc.calls w (brE br E) (c.args.map a.eval ++ arr) (fun b => brE_κ) hlt ((ht.ext hA.ext).env (fun b _ => brE_κ)) hargs
    refine wpList_plain hg fun K hK => ?_
    have hrun : (execOp a.eval o).run P w = .ok (.enter f' (c.args.map a.eval ++ arr)) w := by
     simp only [execOp, ho, resolve, hx1, hx2, Deferred.ofValue, Sem.run_bind, Sem.run_pure, Result.andThen_ok, invoke, Array.empty_append, hc.enters]
    simp only [Oper.wp, hrun, Oper.upon_enter]
    refine hcall.mono ?_
    rintro e w' ⟨y, E', rfl, hX, hap, hlS, hlκ, hro, hR⟩
    simp only
    refine hK _ _ ?_
    have fin : ∀ ys, RCs w' E' 0 rs ys → (∀ μ2 E2 H2, All2 (SR w' E2 μ2 H2) (rcSV s.H.length 0 rs) ys → AR w' E2 μ2 H2 (resA s.H.length rs) y) → wpList P ops (fun e a' w' => ∃ s', SRel n w0 E0 s' a' w' ∧ Q e s') rest (a.put o.dst y) w' := by
     intro ys hRs hA2
     obtain ⟨m1, m2, m3, m4, m5⟩ := MR.back hA.mr hX hap hlS hlκ hro hRs hsel'
     rw [hd]
     cases d with
     | none => exact k _ _ (hA.unput m1 m2 m3 m4).rel
     | some d => exact k _ _ (hA.put (hdn d rfl) m1 m2 m3 m4 (hA2 _ _ _ m5)).rel
    exact resA_of hR fin
   ·simp at h
  ·simp at h
 ·simp at h
end
end Go.Proofs.YtfegppjofphpfaaDoor.Vc
namespace Go.Proofs.YtfegppjofphpfaaDoor.Vc
open Go Go.RowKit
set_option linter.unusedVariables false
set_option linter.unusedSimpArgs false
def ix : List Nat → Nat → Option Nat
 | [], _ => none
 | j :: l, i => cond (Nat.beq j i) (some 0) ((ix l i).map (· + 1))
def Lf.ren (H : Heap) (π : List Nat) : Lf → Lf
 | .hd id ver rng => match ix π id with
  | some i => match H[id]? with
   | some (some (.arr cur _ _ _)) => cond (Nat.beq ver cur) (.hd i 0 rng) .any
   | _ => .any
  | none => .any
 | .ptr id ver i j => match ix π id with
  | some i' => match H[id]? with
   | some (some (.box _ _)) => .ptr i' 0 i j
   | some (some (.arr cur _ _ _)) => cond (Nat.beq ver cur) (.ptr i' 0 i j) .any
   | _ => .any
  | none => .any
 | a => a
def SV.ren (H : Heap) (π : List Nat) : SV → SV
 | .lf a => .lf (a.ren H π)
 | .agg l => .agg (l.map (Lf.ren H π))
def AV.ren (H : Heap) (π : List Nat) : AV → AV
 | .lf a => .lf (a.ren H π)
 | .agg l => .agg (l.map (Lf.ren H π))
 | .tup l => .tup (l.map (SV.ren H π))
 | .clo f l => .clo f (l.map (SV.ren H π))
 | .unk => .unk
def Blk.ren (H : Heap) (π : List Nat) : Blk → Blk
 | .box l t => .box (l.map (Lf.ren H π)) t
 | .arr _ t xs m => .arr 0 t xs m
def renH (H : Heap) (π : List Nat) : Heap := π.map fun id => match H[id]? with
 | some (some b) => some (b.ren H π)
 | _ => none
def renSl (H : Heap) (π : List Nat) (sl : List (Nat × AV)) : List Nat → List (Nat × AV)
 | [] => []
 | k :: ks => match look sl k with
  | some v => (k, v.ren H π) :: renSl H π sl ks
  | none => renSl H π sl ks
def St.ren (s : St) (keep π : List Nat) : St := ⟨renSl s.H π s.sl keep, renH s.H π⟩
def nodup : List Nat → Bool
 | [] => true
 | i :: l => (match ix l i with | none => true | some _ => false) && nodup l
def Gh (n : Nat) (w0 : World) (E0 : Env0) (s s' : St) : Prop := ∀ a w, SRel n w0 E0 s a w → SRel n w0 E0 s' a w
section
variable {P : Program} {T : Tab} {n : Nat} {w0 : World} {E0 : Env0} {s s' s'' : St} {ops : Array Oper} {Q : Exit → St → Prop} {rest : List Oper}
variable {w w' : World} {E E' : Env} {μ μ' : Nat → Value} {H H' : Heap}
theorem Gh.refl : Gh n w0 E0 s s := fun _ _ h => h
theorem Gh.trans (h1 : Gh n w0 E0 s s') (h2 : Gh n w0 E0 s' s'') : Gh n w0 E0 s s'' := fun a w h => h2 a w (h1 a w h)
theorem VW.gh {c : Code} (h : Gh n w0 E0 s s') (k : VW P n w0 E0 c Q s') : VW P n w0 E0 c Q s := fun a w hs => k a w (h a w hs)
theorem VO.gh (h : Gh n w0 E0 s s') (k : VO P n w0 E0 ops Q rest s') : VO P n w0 E0 ops Q rest s := fun a w hs => k a w (h a w hs)
theorem VW.loopG {c : Code} (I : Nat → St → Prop) (k0 : Nat) {s0 : St} (h0 : Gh n w0 E0 s s0) (h1 : I k0 s0)
  (round : ∀ k s, I k s → VW P n w0 E0 c (thenQ (fun s' => ∃ k' s'', k' < k ∧ Gh n w0 E0 s' s'' ∧ I k' s'') Q) s) : VW P n w0 E0 (.loop c) Q s := by
 refine VW.loop (fun k s => ∃ s0, Gh n w0 E0 s s0 ∧ I k s0) k0 ⟨s0, h0, h1⟩ ?_
 rintro k s ⟨s0, h2, h3⟩
 refine VW.gh h2 ((round k s0 h3).mono ?_)
 intro e s' h
 cases e with
 | normal =>
  obtain ⟨k', s'', a1, a2, a3⟩ := h
  exact ⟨k', a1, s'', a2, a3⟩
 | exit id => exact h
 | goto l => exact h
 | ret => exact h
 | panic c => exact h
 | outgrown => exact h
theorem ix_some : ∀ {π : List Nat} {i k : Nat}, ix π i = some k → π[k]? = some i
 | [], _, _, h => by simp [ix] at h
 | j :: l, i, k, h => by
  simp only [ix] at h
  cases hb : Nat.beq j i with
  | true =>
   rw [hb] at h
   simp only [cond_true, Option.some.injEq] at h
   subst h
   simp [Nat.eq_of_beq_eq_true hb]
  | false =>
   rw [hb] at h
   simp only [cond_false, Option.map_eq_some_iff] at h
   obtain ⟨k', h1, rfl⟩ := h
   simpa using ix_some h1
theorem ix_of : ∀ {π : List Nat} {i k : Nat}, nodup π = true → π[k]? = some i → ix π i = some k
 | [], _, _, _, h => by simp at h
 | j :: l, i, 0, hn, h => by
  simp only [List.getElem?_cons_zero, Option.some.injEq] at h
  subst h
  simp only [ix, Nat.beq_refl, cond_true]
 | j :: l, i, k + 1, hn, h => by
  simp only [nodup, Bool.and_eq_true] at hn
  have h1 := ix_of hn.2 (by simpa using h)
  simp only [ix]
  cases hb : Nat.beq j i with
  | true =>
   have := Nat.eq_of_beq_eq_true hb
   subst this
   rw [h1] at hn
   simp at hn
  | false => simp only [cond_false, h1, Option.map_some]
def renE (E : Env) (π : List Nat) : Env := ⟨E.S, fun b => match E.κ b with
 | some (.id i, q) => (ix π i).map fun k => (.id k, q)
 | o => o⟩
theorem renH_at {π : List Nat} {i id : Nat} (h : π[i]? = some id) {b : Blk} (hb : H[id]? = some (some b)) : (renH H π)[i]? = some (some (b.ren H π)) := by
 simp only [renH, List.getElem?_map, h, Option.map_some, hb]
theorem Lf.ren_LR {π : List Nat} {a : Lf} {y : Value} (h : LR w E μ H a y) : LR w (renE E π) (fun i => μ (π.getD i 0)) (renH H π) (a.ren H π) y := by
 have hany : LR w (renE E π) (fun i => μ (π.getD i 0)) (renH H π) .any y := LR_one h
 cases a with
 | v t x =>
  have h' : Rep w E (.res 0) t x .fz (fun _ => .top) (at0 y) := h
  exact Rep.fz (E := E) (E' := renE E π) (fun b hb => ⟨hb, rfl⟩) t x (fun _ _ _ h => h) h'
 | nil => exact h
 | fp t x j =>
  obtain ⟨b, o, h1, h2, h3⟩ := h
  exact ⟨b, o, h1, h2, Rep.fz (E := E) (E' := renE E π) (fun b hb => ⟨hb, rfl⟩) t x (fun _ _ _ h => h) h3⟩
 | any => exact h
 | hd id ver rng =>
  simp only [Lf.ren]
  cases hi : ix π id with
  | none => exact hany
  | some i =>
   have hπ := ix_some hi
   simp only
   cases hb : H[id]? with
   | none => exact hany
   | some b =>
    cases b with
    | none => exact hany
    | some b =>
     cases b with
     | box l t => exact hany
     | arr cur t xs m =>
      simp only
      cases hv : Nat.beq ver cur with
      | false => exact hany
      | true =>
       simp only [LR, hb] at h
       simp only [cond_true, LR, renH_at hπ hb, Blk.ren, Nat.le_refl, true_and]
       refine ⟨h.1, fun _ => ?_⟩
       have := h.2.2 (Nat.eq_of_beq_eq_true hv)
       simpa [List.getD, hπ] using this
 | ptr id ver i j =>
  simp only [Lf.ren]
  cases hi : ix π id with
  | none => exact hany
  | some i' =>
   have hπ := ix_some hi
   simp only
   cases hb : H[id]? with
   | none => exact hany
   | some b =>
    cases b with
    | none => exact hany
    | some b =>
     cases b with
     | box l t =>
      simp only [LR, hb] at h
      simp only [LR, renH_at hπ hb, Blk.ren]
      refine ⟨h.1, ?_⟩
      simpa [List.getD, hπ] using h.2
     | arr cur t xs m =>
      simp only
      cases hv : Nat.beq ver cur with
      | false => exact hany
      | true =>
       simp only [LR, hb] at h
       simp only [cond_true, LR, renH_at hπ hb, Blk.ren, Nat.le_refl, true_and]
       refine ⟨h.1, fun _ => ?_⟩
       have := h.2.2 (Nat.eq_of_beq_eq_true hv)
       simpa [List.getD, hπ] using this
theorem All2.map_left {α β γ : Type} {R : α → β → Prop} {R' : γ → β → Prop} {f : α → γ} (hf : ∀ x y, R x y → R' (f x) y) : ∀ {xs : List α} {ys : List β}, All2 R xs ys → All2 R' (xs.map f) ys
 | _, _, .nil => .nil
 | _, _, .cons h1 h2 => .cons (hf _ _ h1) (All2.map_left hf h2)
theorem SV.ren_SR {π : List Nat} {a : SV} {y : Value} (h : SR w E μ H a y) : SR w (renE E π) (fun i => μ (π.getD i 0)) (renH H π) (a.ren H π) y := by
 cases a with
 | lf a => exact Lf.ren_LR (a := a) h
 | agg l => obtain ⟨arr, h1, h2⟩ := h; exact ⟨arr, h1, h2.map_left fun _ _ h => Lf.ren_LR h⟩
theorem AV.ren_AR {π : List Nat} {a : AV} {y : Value} (h : AR w E μ H a y) : AR w (renE E π) (fun i => μ (π.getD i 0)) (renH H π) (a.ren H π) y := by
 cases a with
 | lf a => exact Lf.ren_LR (a := a) h
 | agg l => obtain ⟨arr, h1, h2⟩ := h; exact ⟨arr, h1, h2.map_left fun _ _ h => Lf.ren_LR h⟩
 | tup l => obtain ⟨arr, h1, h2⟩ := h; exact ⟨arr, h1, h2.map_left fun _ _ h => SV.ren_SR h⟩
 | clo f l => obtain ⟨arr, h1, h2⟩ := h; exact ⟨arr, h1, h2.map_left fun _ _ h => SV.ren_SR h⟩
 | unk => exact h
theorem renSl_look {π : List Nat} {sl : List (Nat × AV)} : ∀ {keep : List Nat} {k : Nat} {v : AV}, look (renSl H π sl keep) k = some v → ∃ u, look sl k = some u ∧ v = u.ren H π
 | [], _, _, h => by simp [renSl, look] at h
 | j :: ks, k, v, h => by
  simp only [renSl] at h
  split at h
  ·rename_i u hu
   simp only [look_put] at h
   split at h
   ·rename_i e
    subst e
    simp only [Option.some.injEq] at h
    exact ⟨u, hu, h.symm⟩
   ·exact renSl_look h
  ·exact renSl_look h
theorem Gh.ren (keep π : List Nat) (hn : nodup π = true) : Gh n w0 E0 s (s.ren keep π) := by
 intro a w hs
 obtain ⟨E, μ, hA⟩ := hs.at
 have hM := hA.mr
 have hκ1 : ∀ b i q, (renE E π).κ b = some (.id i, q) → ∃ j, E.κ b = some (.id j, q) ∧ ix π j = some i := by
  intro b i q h
  simp only [renE] at h
  split at h
  ·rename_i j q' hj
   simp only [Option.map_eq_some_iff, Prod.mk.injEq, Root.id.injEq] at h
   obtain ⟨k, h1, h2, h3⟩ := h
   subst h2 h3
   exact ⟨j, hj, h1⟩
  ·rename_i hne
   exact absurd h (hne i q)
 have hκ2 : ∀ b, (renE E π).κ b ≠ none → E.κ b ≠ none := by
  intro b h e
  simp only [renE, e] at h
  exact h rfl
 refine ⟨hA.size, hA.defers, hA.apart, renE E π, fun i => μ (π.getD i 0), ⟨?_, hM.ltS, fun b h => hM.ltκ b (hκ2 b h), ?_, ?_⟩, ?_, ?_⟩
 ·intro b hb
  have := hM.apart b hb
  simp only [renE, this]
 ·intro b r q h
  simp only [renE] at h
  split at h
  ·rename_i j q' hj
   simp only [Option.map_eq_some_iff, Prod.mk.injEq] at h
   obtain ⟨k, h1, h2, h3⟩ := h
   refine .inl ⟨k, h2.symm, ?_⟩
   have := (List.getElem?_eq_some_iff.1 (ix_some h1)).1
   simpa [St.ren, renH] using this
  ·rename_i hne
   rcases hM.roots b r q h with ⟨m, rfl, _⟩ | h1
   ·exact absurd h (hne m q)
   ·exact .inr h1
 ·intro i blk h
  simp only [St.ren, renH, List.getElem?_map, Option.map_eq_some_iff] at h
  obtain ⟨id, h1, h2⟩ := h
  split at h2
  ·rename_i b hb
   simp only [Option.some.injEq] at h2
   subst h2
   have hN := hM.blks id b hb
   cases b with
   | box l t =>
    obtain ⟨g, arr, a1, a2, a3, a4⟩ := hN
    refine ⟨g, arr, by simpa [List.getD, h1] using a1, ?_, a3, a4.map_left fun _ _ h => Lf.ren_LR h⟩
    simp only [renE, a2, ix_of hn h1, Option.map_some]
   | arr cur t xs m =>
    refine ⟨hN.1, ?_⟩
    have e : (fun i => μ (π.getD i 0)) i = μ id := by simp [List.getD, h1]
    rw [e]
    refine Rep.move (E := E) (E' := renE E π) (fun _ => True) (fun q => q) (fun b hb => ⟨hb, rfl⟩) (fun b q _ hq => ⟨?_, rfl, fun _ => ⟨trivial, rfl⟩⟩) (.sl t) xs m _ _ _ _ (fun _ => ⟨fun _ => trivial, fun _ => rfl⟩) (fun _ _ _ h => h) hN.2
    simp only [renE, hq, ix_of hn h1, Option.map_some]
  ·simp at h2
 ·have hX := hA.ext
  exact ⟨hX.os, hX.tape, hX.output, hX.size, hX.block, hX.grow, hX.from_, fun b h => hX.own b (hκ2 b h)⟩
 ·intro k v hv
  obtain ⟨u, h1, rfl⟩ := renSl_look hv
  obtain ⟨y, h2, h3⟩ := hA.slots k u h1
  exact ⟨y, h2, AV.ren_AR h3⟩
end
end Go.Proofs.YtfegppjofphpfaaDoor.Vc
