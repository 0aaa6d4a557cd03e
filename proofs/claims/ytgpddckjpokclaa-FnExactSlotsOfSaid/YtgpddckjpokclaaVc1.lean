/- A calculus of values over the model, first part: kinds of values, what a value's cells hold in memory, and how that stays when memory is written elsewhere. It speaks of any program. -/
import Derived.Tactics
import Derived.Below
namespace Go.Proofs.Ytgpddckjpokclaa.Vc
open Go Go.RowKit

/-- Kinds of values. A struct is a right-nested pair of its fields. -/
inductive Ty where
  | int (k : IntKind)
  | bool
  | str
  | sl (t : Ty)
  | pair (a b : Ty)
  deriving DecidableEq

@[reducible] def Ty.den : Ty → Type
  | .int _ => Int
  | .bool => Bool
  | .str => ByteArray
  | .sl t => List t.den
  | .pair a b => a.den × b.den

/-- How many cells. -/
def Ty.lv : Ty → Nat
  | .pair a b => a.lv + b.lv
  | _ => 1

def Ty.dflt : (t : Ty) → t.den
  | .int _ => (0 : Int)
  | .bool => false
  | .str => ByteArray.empty
  | .sl _ => []
  | .pair a b => (a.dflt, b.dflt)

/-- Whose a value's rows are: nobody may write them (fz), the top row is ours (tp), all rows are ours (dp). -/
inductive Md where
  | fz | tp | dp
  deriving DecidableEq

def Md.nest : Md → Md
  | .dp => .dp
  | _ => .fz

inductive Root where
  | id (n : Nat)
  | res (n : Nat)
  deriving DecidableEq

inductive Pos where
  | top
  | inside (b k : Nat)
  deriving DecidableEq

/-- S: the blocks that nobody writes; κ: of each block of ours whose it is, and where its address stands. -/
structure Env where
  S : Nat → Prop
  κ : Nat → Option (Root × Pos)

def cellAt (w : World) (b k : Nat) : Option Value := w.cell? ⟨b, k, none⟩

theorem cellAt_eq {w w' : World} {b : Nat} (h : w'.heap[b]? = w.heap[b]?) (k : Nat) : cellAt w' b k = cellAt w b k := by
  simp only [cellAt, World.cell?, h]

/-- A value of kind t lies in the cells that g tells; m: whose its rows are; p: where its cells stand. -/
def Rep (w : World) (E : Env) (r : Root) : (t : Ty) → t.den → Md → (Nat → Pos) → (Nat → Option Value) → Prop
  | .int k, n, _, _, g => g 0 = some (.int k n)
  | .bool, b, _, _, g => g 0 = some (.bool b)
  | .str, s, _, _, g => g 0 = some (.string s)
  | .pair a b, x, m, p, g => Rep w E r a x.1 m p g ∧ Rep w E r b x.2 m (fun i => p (i + a.lv)) (fun i => g (i + a.lv))
  | .sl t, xs, m, p, g => ∃ v, g 0 = some v ∧
      ((m = .fz ∧ ((xs = [] ∧ ∃ a c, v = .slice a 0 c) ∨
          ∃ b o c, v = .slice (some ⟨b, o, none⟩) xs.length c ∧ xs.length ≤ c ∧ E.S b ∧
            ∀ i (h : i < xs.length), Rep w E r t xs[i] .fz (fun j => .inside b (o + i * t.lv + j)) (fun j => cellAt w b (o + i * t.lv + j)))) ∨
       (m ≠ .fz ∧ ((xs = [] ∧ ∃ a, v = .slice a 0 0) ∨
          ∃ b c arr ty, v = .slice (some ⟨b, 0, none⟩) xs.length c ∧ xs.length ≤ c ∧ w.heap[b]? = some (.cells arr ty (0, 0)) ∧ arr.size = c * t.lv ∧
            E.κ b = some (r, p 0) ∧
            ∀ i (h : i < xs.length), Rep w E r t xs[i] m.nest (fun j => .inside b (i * t.lv + j)) (fun j => cellAt w b (i * t.lv + j)))))

/-- What lies somewhere lies there still, in another world, under another owner's name, at other places: what is frozen is as it was, and so are the rows of the owner at the places that A tells. -/
theorem Rep.move {w w' : World} {E E' : Env} {r r' : Root} (A : Pos → Prop) (f : Pos → Pos)
    (hS : ∀ b, E.S b → E'.S b ∧ w'.heap[b]? = w.heap[b]?)
    (hκ : ∀ b q, A q → E.κ b = some (r, q) → E'.κ b = some (r', f q) ∧ w'.heap[b]? = w.heap[b]? ∧ ∀ k, A (.inside b k) ∧ f (.inside b k) = .inside b k) :
    ∀ (t : Ty) (x : t.den) (m : Md) (p p' : Nat → Pos) (g g' : Nat → Option Value),
      (m ≠ .fz → (∀ j, A (p j)) ∧ ∀ j, p' j = f (p j)) → (∀ j v, j < t.lv → g j = some v → g' j = some v) → Rep w E r t x m p g → Rep w' E' r' t x m p' g'
  | .int _, _, _, _, _, _, _, _, hg, h => hg _ _ (by simp [Ty.lv]) h
  | .bool, _, _, _, _, _, _, _, hg, h => hg _ _ (by simp [Ty.lv]) h
  | .str, _, _, _, _, _, _, _, hg, h => hg _ _ (by simp [Ty.lv]) h
  | .pair a b, x, m, p, p', g, g', hp, hg, h =>
    ⟨Rep.move A f hS hκ a x.1 m p p' g g' hp (fun j v hj => hg j v (by simp only [Ty.lv]; omega)) h.1,
     Rep.move A f hS hκ b x.2 m _ _ _ _ (fun hm => ⟨fun j => (hp hm).1 _, fun j => (hp hm).2 _⟩) (fun j v hj => hg _ v (by simp only [Ty.lv]; omega)) h.2⟩
  | .sl t, xs, m, p, p', g, g', hp, hg, h => by
    obtain ⟨v, h0, h⟩ := h
    refine ⟨v, hg _ _ (by simp [Ty.lv]) h0, ?_⟩
    rcases h with ⟨hm, h⟩ | ⟨hm, h⟩
    · refine .inl ⟨hm, ?_⟩
      rcases h with h | ⟨b, o, c, hv, hc, hb, h⟩
      · exact .inl h
      · obtain ⟨h1, h2⟩ := hS b hb
        exact .inr ⟨b, o, c, hv, hc, h1, fun i hi => Rep.move A f hS hκ t _ .fz _ _ _ _ (fun hm => absurd rfl hm) (fun j v _ hv => by rw [cellAt_eq h2]; exact hv) (h i hi)⟩
    · refine .inr ⟨hm, ?_⟩
      rcases h with h | ⟨b, c, arr, ty, hv, hc, hb, hs, hk, h⟩
      · exact .inl h
      · obtain ⟨hA, hf⟩ := hp hm
        obtain ⟨h1, h2, h3⟩ := hκ b _ (hA 0) hk
        refine .inr ⟨b, c, arr, ty, hv, hc, h2.trans hb, hs, by rw [hf]; exact h1, fun i hi => ?_⟩
        exact Rep.move A f hS hκ t _ m.nest _ _ _ _ (fun _ => ⟨fun j => (h3 _).1, fun j => (h3 _).2.symm⟩) (fun j v _ hv => by rw [cellAt_eq h2]; exact hv) (h i hi)

/-- What is frozen stays. -/
theorem Rep.fz {w w' : World} {E E' : Env} {r r' : Root} (hS : ∀ b, E.S b → E'.S b ∧ w'.heap[b]? = w.heap[b]?) (t : Ty) (x : t.den) {p p' : Nat → Pos} {g g' : Nat → Option Value}
    (hg : ∀ j v, j < t.lv → g j = some v → g' j = some v) (h : Rep w E r t x .fz p g) : Rep w' E' r' t x .fz p' g' := by
  have key : ∀ (t : Ty) (x : t.den) (p : Nat → Pos) (g : Nat → Option Value), Rep w E r t x .fz p g → Rep w ⟨E.S, fun _ => none⟩ r t x .fz p g := by
    intro t
    induction t with
    | int k => intro _ _ _ h; exact h
    | bool => intro _ _ _ h; exact h
    | str => intro _ _ _ h; exact h
    | pair a b iha ihb => intro x p g h; exact ⟨iha x.1 _ _ h.1, ihb x.2 _ _ h.2⟩
    | sl t ih =>
      intro xs p g h
      obtain ⟨v, h0, h⟩ := h
      rcases h with ⟨hm, h⟩ | ⟨hm, h⟩
      · refine ⟨v, h0, .inl ⟨hm, ?_⟩⟩
        rcases h with h | ⟨b, o, c, hv, hc, hb, h⟩
        · exact .inl h
        · exact .inr ⟨b, o, c, hv, hc, hb, fun i hi => ih _ _ _ (h i hi)⟩
      · exact absurd rfl hm
  exact Rep.move (E := ⟨E.S, fun _ => none⟩) (E' := E') (fun _ => True) id hS (fun b q _ h => by simp at h) t x .fz p p' g g' (fun hm => absurd rfl hm) hg (key t x p g h)

/-- What was ours is frozen. -/
theorem Rep.freeze {w w' : World} {E E' : Env} {r r' : Root} (hS : ∀ b, E.S b → E'.S b ∧ w'.heap[b]? = w.heap[b]?)
    (hκ : ∀ b q, E.κ b = some (r, q) → E'.S b ∧ w'.heap[b]? = w.heap[b]?) :
    ∀ (t : Ty) (x : t.den) (m : Md) (p p' : Nat → Pos) (g g' : Nat → Option Value), (∀ j v, j < t.lv → g j = some v → g' j = some v) → Rep w E r t x m p g → Rep w' E' r' t x .fz p' g'
  | .int _, _, _, _, _, _, _, hg, h => hg _ _ (by simp [Ty.lv]) h
  | .bool, _, _, _, _, _, _, hg, h => hg _ _ (by simp [Ty.lv]) h
  | .str, _, _, _, _, _, _, hg, h => hg _ _ (by simp [Ty.lv]) h
  | .pair a b, x, m, p, p', g, g', hg, h =>
    ⟨Rep.freeze hS hκ a x.1 m p _ g g' (fun j v hj => hg j v (by simp only [Ty.lv]; omega)) h.1, Rep.freeze hS hκ b x.2 m _ _ _ _ (fun j v hj => hg _ v (by simp only [Ty.lv]; omega)) h.2⟩
  | .sl t, xs, m, p, p', g, g', hg, h => by
    obtain ⟨v, h0, h⟩ := h
    refine ⟨v, hg _ _ (by simp [Ty.lv]) h0, .inl ⟨rfl, ?_⟩⟩
    rcases h with ⟨hm, h⟩ | ⟨hm, h⟩
    · rcases h with h | ⟨b, o, c, hv, hc, hb, h⟩
      · exact .inl h
      · obtain ⟨h1, h2⟩ := hS b hb
        exact .inr ⟨b, o, c, hv, hc, h1, fun i hi => Rep.freeze hS hκ t _ .fz _ _ _ _ (fun j v _ hv => by rw [cellAt_eq h2]; exact hv) (h i hi)⟩
    · rcases h with ⟨h, a, ha⟩ | ⟨b, c, arr, ty, hv, hc, hb, hs, hk, h⟩
      · exact .inl ⟨h, a, 0, ha⟩
      · obtain ⟨h1, h2⟩ := hκ b _ hk
        refine .inr ⟨b, 0, c, hv, hc, h1, fun i hi => ?_⟩
        exact Rep.freeze hS hκ t _ m.nest _ _ _ _ (fun j v _ hv => by rw [cellAt_eq h2, Nat.zero_add]; exact hv) (h i hi)

end Go.Proofs.Ytgpddckjpokclaa.Vc
