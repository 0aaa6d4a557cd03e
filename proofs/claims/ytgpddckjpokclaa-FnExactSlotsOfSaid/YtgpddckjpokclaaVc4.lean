/- A calculus of values over the model, fourth part: loads, addresses, cuts, lengths: the rest of the operations that only read, and the step of a walk over one of them. It speaks of any program. -/
import Derived.Test.YtgpddckjpokclaaVc3
namespace Go.Proofs.Ytgpddckjpokclaa.Vc
open Go Go.RowKit
set_option linter.unusedVariables false

/-- A number that counts a place among k. -/
abbrev InR (n : Int) (k : Nat) : Prop := 0 ≤ n ∧ n < (k : Int)

def one : List Lf → Option AV
  | [a] => some (.lf a)
  | _ => none

/-- Cells j, .. of a row of cells, as a value of type t. -/
def takeAs (ti : TI) (l : List Lf) (j : Nat) : Option AV :=
  let r := (l.drop j).take ti.ty.lv
  cond (Nat.beq r.length ti.ty.lv) (cond ti.ty.isPair (some (.agg r)) (one r)) none

def evLoad (T : Tab) (H : Heap) (t : TypeId) : AV → Option (Prop × AV)
  | .lf (.fp t' x j) => match T t with
    | some ti => (takeAs ti (leafs t' x .fz) j).map fun v => (True, v)
    | none => none
  | .lf (.ptr id ver i j) => match T t with
    | some ti => match H[id]? with
      | some (some (.box l _)) => (takeAs ti l j).map fun v => (True, v)
      | some (some (.arr cur t' xs m)) => cond (Nat.beq ver cur) ((takeAs ti (leafs t' (xs.getD i t'.dflt) m.nest) j).map fun v => (i < xs.length, v)) none
      | _ => none
    | none => none
  | _ => none

def offOf (T : Tab) (s : TypeId) (f : Nat) : Option Nat := match T s with
  | some ti => match ti.ty with
    | .pair _ _ => ti.offs[f]?
    | _ => none
  | none => none

/-- The name is of the block as it stands. -/
def fresh (H : Heap) (id ver : Nat) : Bool := match H[id]? with
  | some (some (.box _ _)) => true
  | some (some (.arr cur _ _ _)) => Nat.beq ver cur
  | _ => false

def evField (T : Tab) (H : Heap) (s : TypeId) (f : Nat) : AV → Option (Prop × AV)
  | .lf (.fp t x j) => (offOf T s f).map fun o => (True, .lf (.fp t x (j + o)))
  | .lf (.ptr id ver i j) => cond (fresh H id ver) ((offOf T s f).map fun o => (True, .lf (.ptr id ver i (j + o)))) none
  | _ => none

def elemIs (T : Tab) (t : TypeId) (e : Ty) : Bool := match T t with
  | some ti => match ti.ty with
    | .sl e' => decide (e' = e)
    | _ => false
  | none => false

def evIndexAddr (T : Tab) (H : Heap) (t : TypeId) : AV → AV → Option (Prop × AV)
  | .lf (.v (.sl e) xs), .lf (.v (.int _) n) => cond (elemIs T t e) (some (InR n xs.length, .lf (.fp e (xs.getD n.toNat e.dflt) 0))) none
  | .lf (.hd id ver rng), .lf (.v (.int _) n) => match H[id]? with
    | some (some (.arr cur e xs _)) => cond (Nat.beq ver cur && elemIs T t e) (match rng with
      | none => some (InR n xs.length, .lf (.ptr id ver n.toNat 0))
      | some (o, l) => some (InR n l, .lf (.ptr id ver (o + n.toNat) 0))) none
    | _ => none
  | _, _ => none

def evIndex (T : Tab) (t : TypeId) : AV → AV → Option (Prop × AV)
  | .lf (.v .str s), .lf (.v (.int _) n) => match T t with
    | some { ty := .str, .. } => some (InR n s.size, .lf (.v (.int .u8) (s.data.getD n.toNat 0).toNat))
    | _ => none
  | _, _ => none

def evLen (T : Tab) (H : Heap) (t : TypeId) : AV → Option (Prop × AV)
  | .lf (.v .str s) => match T t with
    | some { ty := .str, .. } => some (True, .lf (.v (.int .i64) (s.size : Int)))
    | _ => none
  | .lf (.v (.sl e) xs) => cond (elemIs T t e) (some (True, .lf (.v (.int .i64) (xs.length : Int)))) none
  | .lf .nil => match T t with
    | some { ty := .sl _, .. } => some (True, .lf (.v (.int .i64) 0))
    | _ => none
  | .lf (.hd id ver rng) => match H[id]? with
    | some (some (.arr cur e xs _)) => cond (Nat.beq ver cur && elemIs T t e) (some (True, .lf (.v (.int .i64) (match rng with | none => (xs.length : Int) | some (_, l) => (l : Int))))) none
    | _ => none
  | _ => none

theorem elemIs_under {P : Program} {T : Tab} (hT : TabOk P T) {t : TypeId} {e : Ty} (h : elemIs T t e = true) :
    ∃ ti ej, T t = some ti ∧ ti.ty = .sl e ∧ P.underlying t = some (.slice ti.elem) ∧ T ti.elem = some ej ∧ ej.ty = e := by
  unfold elemIs at h
  split at h
  · rename_i ti hi
    split at h
    · rename_i e' he
      have : e' = e := by simpa using h
      subst this
      obtain ⟨h1, ej, h2, h3⟩ := hT.slice hi he
      exact ⟨ti, ej, hi, he, h1, h2, h3⟩
    · simp at h
  · simp at h

section
variable {P : Program} {T : Tab} {w : World} {E : Env} {μ : Nat → Value} {H : Heap}

theorem takeAs_run (hT : TabOk P T) {t : TypeId} {ti : TI} (hi : T t = some ti) {l : List Lf} {j : Nat} {v : AV} (h : takeAs ti l j = some v) {b o : Nat}
    (hl : ∀ (k : Nat) a, l[k]? = some a → ∃ y, cellAt w b (o + k) = some y ∧ LR w E μ H a y) :
    ∃ y, (loadVar t ⟨b, o + j, none⟩).run P w = .ok y w ∧ AR w E μ H v y := by
  unfold takeAs at h
  simp only at h
  generalize hr : (l.drop j).take ti.ty.lv = r at h
  cases hb : Nat.beq r.length ti.ty.lv with
  | false => rw [hb] at h; simp at h
  | true =>
    rw [hb] at h
    have hlen : r.length = ti.ty.lv := Nat.eq_of_beq_eq_true hb
    have hk : ∀ (k : Nat) a, r[k]? = some a → ∃ y, cellAt w b (o + j + k) = some y ∧ LR w E μ H a y := by
      intro k a ha
      rw [← hr, List.getElem?_take] at ha
      split at ha
      · rw [List.getElem?_drop] at ha
        obtain ⟨y, h1, h2⟩ := hl _ _ ha
        exact ⟨y, by rw [Nat.add_assoc]; exact h1, h2⟩
      · simp at ha
    have hcs : ∃ cs : List Value, cs.length = r.length ∧ (∀ (k : Nat) y, cs[k]? = some y → cellAt w b (o + j + k) = some y) ∧ All2 (LR w E μ H) r cs := by
      clear hr hb hlen h
      generalize o + j = q at hk ⊢
      induction r generalizing q with
      | nil => exact ⟨[], rfl, by simp, .nil⟩
      | cons a r ih =>
        obtain ⟨y, h1, h2⟩ := hk 0 a rfl
        obtain ⟨cs, h3, h4, h5⟩ := ih (q + 1) (fun k a ha => by
          have := hk (k + 1) a (by simpa using ha)
          rw [show q + 1 + k = q + (k + 1) by omega]
          exact this)
        refine ⟨y :: cs, by simp [h3], fun k z hz => ?_, .cons h2 h5⟩
        cases k with
        | zero => simp at hz; subst hz; exact h1
        | succ k =>
          have := h4 k z (by simpa using hz)
          rw [show q + (k + 1) = q + 1 + k by omega]
          exact this
    obtain ⟨cs, h1, h2, h3⟩ := hcs
    refine ⟨_, hT.loadVar hi w b (o + j) cs (by rw [h1, hlen]) h2, ?_⟩
    simp only [cond_true] at h
    cases hp : ti.ty.isPair with
    | true =>
      rw [hp] at h
      simp only [cond_true, Option.some.injEq] at h
      subst h
      exact ⟨cs.toArray, by simp, by simpa using h3⟩
    | false =>
      rw [hp] at h
      simp only [cond_false] at h
      match r, h3, h with
      | [a], .cons (y := y) q1 .nil, h =>
        simp only [one, Option.some.injEq] at h
        subst h
        simpa [AR] using q1
      | [], _, h => simp [one] at h
      | _ :: _ :: _, _, h => simp [one] at h

theorem Rep.cells {r : Root} {t : Ty} {x : t.den} {m : Md} {p : Nat → Pos} {b o : Nat} (h : Rep w E r t x m p (fun k => cellAt w b (o + k))) :
    ∀ (k : Nat) a, (leafs t x m)[k]? = some a → ∃ y, cellAt w b (o + k) = some y ∧ LR w E μ H a y := fun k a ha => leafs_at t x m p _ h k a ha

/-- The rows of a slice of ours. -/
theorem MR.arr {k : Nat} (hM : MR w E μ H k) {id ver : Nat} {t : Ty} {xs : List t.den} {m : Md} (h : H[id]? = some (some (.arr ver t xs m))) :
    m ≠ .fz ∧ ((xs = [] ∧ ∃ a, μ id = .slice a 0 0) ∨ ∃ b c arr ty, μ id = .slice (some ⟨b, 0, none⟩) xs.length c ∧ xs.length ≤ c ∧ w.heap[b]? = some (.cells arr ty (0, 0)) ∧ arr.size = c * t.lv ∧
            E.κ b = some (.id id, .top) ∧ ∀ i (h : i < xs.length), Rep w E (.id id) t xs[i] m.nest (fun j => .inside b (i * t.lv + j)) (fun j => cellAt w b (i * t.lv + j))) := by
  obtain ⟨hm, v, hv, h1⟩ := hM.blks id _ h
  simp only [at0, if_true, Option.some.injEq] at hv
  subst hv
  rcases h1 with ⟨h1, _⟩ | ⟨_, h1⟩
  · exact absurd h1 hm
  · exact ⟨hm, h1⟩

theorem evLoad_run {k : Nat} (hT : TabOk P T) (hM : MR w E μ H k) {t : TypeId} {x v : AV} {φ : Prop} (h : evLoad T H t x = some (φ, v)) (hφ : φ) {y : Value} (hx : AR w E μ H x y) :
    ∃ z, (Instr.loadAt t y).run P w = .ok z w ∧ AR w E μ H v z := by
  unfold evLoad at h
  split at h
  · rename_i t' x' j
    split at h
    · rename_i ti hi
      simp only [Option.map_eq_some_iff, Prod.mk.injEq] at h
      obtain ⟨v', h1, rfl, rfl⟩ := h
      obtain ⟨b, o, rfl, hb, hr⟩ := hx
      obtain ⟨z, h2, h3⟩ := takeAs_run hT hi h1 (b := b) (o := o) (w := w) (E := E) (μ := μ) (H := H) (Rep.cells hr)
      exact ⟨z, by simp only [Instr.loadAt, Instr.sureAddr, Sem.run_bind, Sem.run_pure, Result.andThen_ok]; exact h2, h3⟩
    · simp at h
  · rename_i id ver i j
    split at h
    · rename_i ti hi
      simp only [AR, LR] at hx
      replace hx := hx.2
      split at h
      · rename_i l tid hH
        rw [hH] at hx
        simp only [Option.map_eq_some_iff, Prod.mk.injEq] at h
        obtain ⟨v', h1, rfl, rfl⟩ := h
        obtain ⟨b, hb, rfl⟩ := hx
        obtain ⟨b', arr, e1, e2, e3, e4⟩ := hM.blks id _ hH
        rw [hb] at e1
        simp only [Value.pointer.injEq, Option.some.injEq, Addr.mk.injEq, and_true] at e1
        subst e1
        obtain ⟨z, h2, h3⟩ := takeAs_run hT hi h1 (b := b) (o := 0) (w := w) (E := E) (μ := μ) (H := H) (fun k a ha => by
          obtain ⟨y, h5, h6⟩ := e4.get k a ha
          refine ⟨y, ?_, h6⟩
          simp only [cellAt, World.cell?, e3, Nat.zero_add]
          simpa using h5)
        rw [Nat.zero_add] at h2
        exact ⟨z, by simp only [Instr.loadAt, Instr.sureAddr, Sem.run_bind, Sem.run_pure, Result.andThen_ok]; exact h2, h3⟩
      · rename_i cur t' xs m hH
        rw [hH] at hx
        cases hv : Nat.beq ver cur with
        | false => rw [hv] at h; simp at h
        | true =>
          rw [hv] at h
          simp only [cond_true, Option.map_eq_some_iff, Prod.mk.injEq] at h
          obtain ⟨v', h1, rfl, rfl⟩ := h
          obtain ⟨b, n, c, e1, rfl⟩ := hx.2 (Nat.eq_of_beq_eq_true hv)
          obtain ⟨hm, h2⟩ := hM.arr hH
          rcases h2 with ⟨h2, _⟩ | ⟨b', c', arr, ty, f1, f2, f3, f4, f5, f6⟩
          · subst h2; simp at hφ
          · rw [e1] at f1
            simp only [Value.slice.injEq, Option.some.injEq, Addr.mk.injEq, and_true] at f1
            obtain ⟨rfl, _, _⟩ := f1
            have hr := f6 i hφ
            have hg : xs.getD i t'.dflt = xs[i] := by simp [List.getD, hφ]
            rw [hg] at h1
            obtain ⟨z, h2, h3⟩ := takeAs_run hT hi h1 (b := b) (o := i * t'.lv) (w := w) (E := E) (μ := μ) (H := H) (Rep.cells hr)
            exact ⟨z, by simp only [Instr.loadAt, Instr.sureAddr, Sem.run_bind, Sem.run_pure, Result.andThen_ok]; exact h2, h3⟩
      · simp at h
    · simp at h
  · simp at h

theorem evField_run (hT : TabOk P T) {t : TypeId} {f : Nat} {x v : AV} {φ : Prop} (h : evField T H t f x = some (φ, v)) {y : Value} (hx : AR w E μ H x y) :
    ∃ z, (Instr.fieldAt t y f).run P w = .ok z w ∧ AR w E μ H v z := by
  have key : ∀ (o : Nat) (b q : Nat), offOf T t f = some o → (Instr.fieldAt t (.pointer (some ⟨b, q, none⟩)) f).run P w = .ok (.pointer (some ⟨b, q + o, none⟩)) w := by
    intro o b q ho
    unfold offOf at ho
    split at ho
    · rename_i ti hi
      split at ho
      · rename_i a c hty
        have hu := (hT t ti hi).under
        rw [hty] at hu
        obtain ⟨fs, h1, h2, _⟩ := hu
        obtain ⟨fl, info', h3, h4, h5, h6⟩ := h2 f o ho
        simp only [Instr.fieldAt, Sem.run_bind, run_underlying h1, Result.andThen_ok, h3, Instr.sureAddr, Sem.run_pure, fieldPlace, run_sizeOf' h5, if_neg h6, h4, add_at]
      · simp at ho
    · simp at ho
  unfold evField at h
  split at h
  · simp only [Option.map_eq_some_iff, Prod.mk.injEq] at h
    obtain ⟨o, ho, rfl, rfl⟩ := h
    obtain ⟨b, q, rfl, h1, h2⟩ := hx
    exact ⟨_, key o b _ ho, b, q, by rw [Nat.add_assoc], h1, h2⟩
  · rename_i id ver i j
    cases hf : fresh H id ver with
    | false => rw [hf] at h; simp at h
    | true =>
      rw [hf] at h
      simp only [cond_true, Option.map_eq_some_iff, Prod.mk.injEq] at h
      obtain ⟨o, ho, rfl, rfl⟩ := h
      unfold fresh at hf
      simp only [AR, LR] at hx ⊢
      replace hx := hx.2
      split at hf
      · rename_i l tid hH
        rw [hH] at hx ⊢
        obtain ⟨b, h1, rfl⟩ := hx
        exact ⟨_, key o b _ ho, rfl, b, h1, rfl⟩
      · rename_i cur t' xs m hH
        rw [hH] at hx ⊢
        obtain ⟨b, n, c, h1, rfl⟩ := hx.2 (Nat.eq_of_beq_eq_true hf)
        exact ⟨_, key o b _ ho, rfl, hx.1, fun _ => ⟨b, n, c, h1, by rw [Nat.add_assoc]⟩⟩
      · simp at hf
  · simp at h

theorem evIndexAddr_run {k : Nat} (hT : TabOk P T) (hM : MR w E μ H k) {t : TypeId} {x i v : AV} {φ : Prop} (h : evIndexAddr T H t x i = some (φ, v)) (hφ : φ) {y q : Value} (hx : AR w E μ H x y) (hi : AR w E μ H i q) :
    ∃ z, (Instr.indexAt t y q).run P w = .ok z w ∧ AR w E μ H v z := by
  have key : ∀ {ti ej : TI} {b o len cap : Nat} {kk : IntKind} (n : Int), P.underlying t = some (.slice ti.elem) → T ti.elem = some ej → 0 ≤ n → n < (len : Int) →
      (Instr.indexAt t (.slice (some ⟨b, o, none⟩) len cap) (.int kk n)).run P w = .ok (.pointer (some ⟨b, o + n.toNat * ej.ty.lv, none⟩)) w := by
    intro ti ej b o len cap kk n hu he h0 h1
    have htiny : (match (TypeDesc.slice ti.elem : TypeDesc) with | .array .. => true | _ => false) = false := rfl
    simp [Instr.indexAt, asIntOf, run_underlying hu, h0, h1, hT.size he, add_at]
  unfold evIndexAddr at h
  split at h
  · rename_i e xs kk n
    simp only [AR, LR_int] at hi
    subst hi
    cases he : elemIs T t e with
    | false => rw [he] at h; simp at h
    | true =>
      rw [he] at h
      simp only [cond_true, Option.some.injEq, Prod.mk.injEq] at h
      obtain ⟨rfl, rfl⟩ := h
      obtain ⟨ti, ej, h1, h2, h3, h4, h5⟩ := elemIs_under hT he
      obtain ⟨v', hv', hr⟩ := hx
      simp only [at0, if_true, Option.some.injEq] at hv'
      subst hv'
      rcases hr with ⟨_, hr⟩ | ⟨hr, _⟩
      · rcases hr with ⟨rfl, _⟩ | ⟨b, o, c, rfl, f1, f2, f3⟩
        · exact absurd hφ (by rintro ⟨h0, h1⟩; simp at h1; omega)
        · refine ⟨_, key n h3 h4 hφ.1 hφ.2, b, o + n.toNat * ej.ty.lv, by simp, f2, ?_⟩
          have hlt : Int.toNat n < xs.length := by have h0 : (0 : Int) ≤ n := hφ.1; have h1 : (n : Int) < (xs.length : Int) := hφ.2; omega
          have := f3 n.toNat hlt
          rw [show xs.getD n.toNat e.dflt = xs[n.toNat] by simp [List.getD, hlt], h5]
          exact Rep.fz (fun b hb => ⟨hb, rfl⟩) e _ (fun _ _ _ h => h) this
      · exact absurd rfl hr
  · rename_i id ver rng kk n
    simp only [AR, LR_int] at hi
    subst hi
    split at h
    · rename_i cur e xs m hH
      cases hc : (Nat.beq ver cur && elemIs T t e) with
      | false => rw [hc] at h; simp at h
      | true =>
        rw [hc] at h
        simp only [Bool.and_eq_true] at hc
        obtain ⟨hv, he⟩ := hc
        obtain ⟨ti, ej, h1, h2, h3, h4, h5⟩ := elemIs_under hT he
        simp only [AR, LR, hH] at hx
        replace hx := hx.2
        have hx' := hx.2 (Nat.eq_of_beq_eq_true hv)
        obtain ⟨hm, ha⟩ := hM.arr hH
        cases rng with
        | none =>
          simp only [cond_true, Option.some.injEq, Prod.mk.injEq] at h
          obtain ⟨rfl, rfl⟩ := h
          simp only [HdR] at hx'
          subst hx'
          rcases ha with ⟨rfl, _⟩ | ⟨b, c, arr, ty, g1, g2, g3, g4, g5, g6⟩
          · exact absurd hφ (by rintro ⟨h0, h1⟩; simp at h1; omega)
          · rw [g1]
            refine ⟨_, key n h3 h4 hφ.1 hφ.2, ?_⟩
            simp only [AR, LR, hH]
            exact ⟨rfl, hx.1, fun _ => ⟨b, _, _, g1, by rw [h5]; simp⟩⟩
        | some ol =>
          obtain ⟨o, l⟩ := ol
          simp only [cond_true, Option.some.injEq, Prod.mk.injEq] at h
          obtain ⟨rfl, rfl⟩ := h
          replace hx' := HdR.old hx'
          rcases hx' with ⟨rfl, _⟩ | ⟨b, c, c', g1, rfl, g3, g4⟩
          · exact absurd hφ (by rintro ⟨h0, h1⟩; simp at h1; omega)
          · refine ⟨_, key n h3 h4 hφ.1 hφ.2, ?_⟩
            simp only [AR, LR, hH]
            exact ⟨rfl, hx.1, fun _ => ⟨b, _, _, g1, by rw [h5]; simp [Nat.add_mul]⟩⟩
    · simp at h
  · simp at h

theorem evIndex_run (hT : TabOk P T) {t : TypeId} {x i v : AV} {φ : Prop} (h : evIndex T t x i = some (φ, v)) (hφ : φ) {y q : Value} (hx : AR w E μ H x y) (hi : AR w E μ H i q) :
    ∃ z, (Instr.index t y q).run P w = .ok z w ∧ AR w E μ H v z := by
  unfold evIndex at h
  split at h
  · rename_i s kk n
    split at h
    · rename_i e o hti
      simp only [Option.some.injEq, Prod.mk.injEq] at h
      obtain ⟨rfl, rfl⟩ := h
      have hu := (hT t _ hti).under
      simp only at hu
      simp only [AR, LR_int] at hi
      simp only [AR, LR_str] at hx
      subst hi hx
      have h0 : (0 : Int) ≤ n := hφ.1
      have h1 : (n : Int) < (s.size : Int) := hφ.2
      have hlt : Int.toNat n < s.size := by omega
      refine ⟨.int .u8 (s.data.getD n.toNat 0).toNat, ?_, AR_int _ _⟩
      have hs : s[n.toNat]? = some (s.data.getD n.toNat 0) := by
        rw [getElem?_pos s n.toNat hlt]
        have : n.toNat < s.data.size := hlt
        simp only [Array.getD, Option.some.injEq]
        rw [dif_pos this]
        rfl
      simp only [Instr.index, asIntOf, Sem.run_bind, Sem.run_pure, Result.andThen_ok, run_underlying hu, if_pos h0, hs]
    · simp at h
  · simp at h

theorem evLen_run {k : Nat} (hT : TabOk P T) (hM : MR w E μ H k) {t : TypeId} {x v : AV} {φ : Prop} (h : evLen T H t x = some (φ, v)) {y : Value} (hx : AR w E μ H x y) (ts : Array TypeId) (ht : ts[0]? = some t) (rt : TypeId) :
    ∃ z, (Builtin.len_ ts rt #[y]).run P w = .ok z w ∧ AR w E μ H v z := by
  unfold evLen at h
  split at h
  · rename_i s
    split at h
    · rename_i e o hti
      simp only [Option.some.injEq, Prod.mk.injEq] at h
      obtain ⟨rfl, rfl⟩ := h
      have hu := (hT t _ hti).under
      simp only at hu
      simp only [AR, LR_str] at hx
      subst hx
      exact ⟨.int .i64 s.size, by simp [Builtin.len_, ht, run_underlying hu, goInt], AR_int _ _⟩
    · simp at h
  · rename_i e xs
    cases he : elemIs T t e with
    | false => rw [he] at h; simp at h
    | true =>
      rw [he] at h
      simp only [cond_true, Option.some.injEq, Prod.mk.injEq] at h
      obtain ⟨rfl, rfl⟩ := h
      obtain ⟨ti, ej, h1, h2, h3, h4, h5⟩ := elemIs_under hT he
      obtain ⟨v', hv', hr⟩ := hx
      simp only [at0, if_true, Option.some.injEq] at hv'
      subst hv'
      have : ∃ a c, y = .slice a xs.length c := by
        rcases hr with ⟨_, hr⟩ | ⟨hr, _⟩
        · rcases hr with ⟨rfl, a, c, rfl⟩ | ⟨b, o, c, rfl, _⟩
          · exact ⟨a, c, rfl⟩
          · exact ⟨_, c, rfl⟩
        · exact absurd rfl hr
      obtain ⟨a, c, rfl⟩ := this
      exact ⟨.int .i64 xs.length, by simp [Builtin.len_, ht, run_underlying h3, goInt], AR_int _ _⟩
  · split at h
    · rename_i e o1 o2 hti
      simp only [Option.some.injEq, Prod.mk.injEq] at h
      obtain ⟨rfl, rfl⟩ := h
      have hu := ((hT t _ hti).under).1
      obtain ⟨a, rfl⟩ := hx
      exact ⟨.int .i64 0, by simp [Builtin.len_, ht, run_underlying hu, goInt], AR_int _ _⟩
    · simp at h
  · rename_i id ver rng
    split at h
    · rename_i cur e xs m hH
      cases hc : (Nat.beq ver cur && elemIs T t e) with
      | false => rw [hc] at h; simp at h
      | true =>
        rw [hc] at h
        simp only [Bool.and_eq_true] at hc
        obtain ⟨hv, he⟩ := hc
        obtain ⟨ti, ej, h1, h2, h3, h4, h5⟩ := elemIs_under hT he
        simp only [AR, LR, hH] at hx
        replace hx := hx.2
        have hx' := hx.2 (Nat.eq_of_beq_eq_true hv)
        obtain ⟨hm, ha⟩ := hM.arr hH
        simp only [cond_true, Option.some.injEq, Prod.mk.injEq] at h
        obtain ⟨rfl, rfl⟩ := h
        cases rng with
        | none =>
          simp only [HdR] at hx'
          subst hx'
          have : ∃ a c, μ id = .slice a xs.length c := by
            rcases ha with ⟨rfl, a, ha⟩ | ⟨b, c, arr, ty, g1, _⟩
            · exact ⟨a, 0, ha⟩
            · exact ⟨_, c, g1⟩
          obtain ⟨a, c, hq⟩ := this
          rw [hq]
          exact ⟨.int .i64 xs.length, by simp [Builtin.len_, ht, run_underlying h3, goInt], AR_int _ _⟩
        | some ol =>
          obtain ⟨o, l⟩ := ol
          replace hx' := HdR.old hx'
          have : ∃ a c, y = .slice a l c := by
            rcases hx' with ⟨rfl, a, c, rfl⟩ | ⟨b, c, c', g1, rfl, g3, g4⟩
            · exact ⟨a, c, rfl⟩
            · exact ⟨_, c', rfl⟩
          obtain ⟨a, c, rfl⟩ := this
          exact ⟨.int .i64 l, by simp [Builtin.len_, ht, run_underlying h3, goInt], AR_int _ _⟩
    · simp at h
  · simp at h
end
end Go.Proofs.Ytgpddckjpokclaa.Vc
