/- A calculus of values over the model, nineteenth part: a table of types is checked; short words. It speaks of any program. -/
import Derived.Test.YtgpddckjpokclaaVc18
import Derived.KernelRfl
namespace Go.Proofs.Ytgpddckjpokclaa.Vc
open Go Go.RowKit
set_option linter.unusedVariables false

def lookT : List (Nat × TI) → Tab
  | [], _ => none
  | (j, i) :: l, t => cond (Nat.beq j t) (some i) (lookT l t)

def eqZ : Value → Value → Bool
  | .int k x, .int k' y => decide (k = k') && decide (x = y)
  | .bool x, .bool y => x == y
  | .string x, .string y => x.size == 0 && y.size == 0
  | .slice none 0 0, .slice none 0 0 => true
  | _, _ => false

def eqZs : List Value → List Value → Bool
  | [], [] => true
  | x :: xs, y :: ys => eqZ x y && eqZs xs ys
  | _, _ => false

theorem eqZ_eq {x y : Value} (h : eqZ x y = true) : x = y := by
  unfold eqZ at h
  split at h
  · simp only [Bool.and_eq_true, decide_eq_true_eq] at h
    obtain ⟨rfl, rfl⟩ := h
    rfl
  · simp only [beq_iff_eq] at h
    subst h
    rfl
  · rename_i x y
    simp only [Bool.and_eq_true, beq_iff_eq] at h
    have e : ∀ z : ByteArray, z.size = 0 → z = ByteArray.empty := by
      intro z hz
      cases z with
      | mk d =>
        have : d = #[] := by simpa [ByteArray.size] using hz
        rw [this]
        rfl
    rw [e x h.1, e y h.2]
  · rfl
  · simp at h

theorem eqZs_eq : ∀ {xs ys : List Value}, eqZs xs ys = true → xs = ys
  | [], [], _ => rfl
  | x :: xs, y :: ys, h => by
    simp only [eqZs, Bool.and_eq_true] at h
    rw [eqZ_eq h.1, eqZs_eq h.2]
  | [], _ :: _, h => by simp [eqZs] at h
  | _ :: _, [], h => by simp [eqZs] at h

def eqPs : Option (List (Nat × Nat)) → List (Nat × Nat) → Bool
  | some l, m => decide (l = m)
  | none, _ => false

def tiB (P : Program) (T : Tab) (t : TypeId) (i : TI) : Bool :=
  (match P.info? t with
    | some info => Nat.beq info.size i.ty.lv && (match info.zero with | some z => eqZs z.cells.toList i.ty.zeros | none => false) && decide (0 < info.bytes) && decide (info.bytes ≤ 4096) && decide (info.bytes ≤ 16 * i.ty.lv + 8 * i.ty.lv)
    | none => false) &&
  (match i.ty, P.underlying t with
    | .int k, some (.int k') => decide (k' = k)
    | .bool, some .bool => true
    | .str, some .string => true
    | .sl e, some (.slice el) => Nat.beq el i.elem && (match T i.elem with | some j => decide (j.ty = e) | none => false)
    | .pair _ _, some (.struct fs) => eqPs (fs.toList.mapM (fun f => (P.info? f.type).map fun j => (f.offset, j.size))) (i.offs.zip i.szs) && (i.szs.all fun k => decide (k ≠ 0)) && Nat.beq i.szs.length i.offs.length
    | _, _ => false)

theorem mapM_get {α β : Type} {f : α → Option β} : ∀ {l : List α} {r : List β}, l.mapM f = some r → l.length = r.length ∧ ∀ (i : Nat) (y : β), r[i]? = some y → ∃ x, l[i]? = some x ∧ f x = some y
  | [], r, h => by
    simp at h
    subst h
    exact ⟨rfl, by simp⟩
  | a :: l, r, h => by
    simp only [List.mapM_cons, Option.bind_eq_bind, Option.pure_def] at h
    cases ha : f a with
    | none => simp [ha] at h
    | some b =>
      cases hl : l.mapM f with
      | none => simp [ha, hl] at h
      | some r' =>
        simp [ha, hl] at h
        subst h
        obtain ⟨h1, h2⟩ := mapM_get hl
        refine ⟨by simp [h1], fun i y hy => ?_⟩
        cases i with
        | zero => simp at hy; subst hy; exact ⟨a, rfl, ha⟩
        | succ i => exact h2 i y (by simpa using hy)

theorem tiB_ok {P : Program} {T : Tab} {t : TypeId} {i : TI} (h : tiB P T t i = true) : TIOk P T t i := by
  unfold tiB at h
  simp only [Bool.and_eq_true] at h
  obtain ⟨h1, h2⟩ := h
  constructor
  · split at h1
    · rename_i info hi
      simp only [Bool.and_eq_true, decide_eq_true_eq] at h1
      obtain ⟨⟨⟨⟨a1, a2⟩, a3⟩, a4⟩, a5⟩ := h1
      refine ⟨info, hi, Nat.eq_of_beq_eq_true a1, ?_, a3, a4, a5⟩
      split at a2
      · rename_i z hz
        rw [hz, Option.map_some, eqZs_eq a2]
      · simp at a2
    · simp at h1
  · split at h2
    · rename_i hty hu
      simp only [decide_eq_true_eq] at h2
      rw [hty]
      subst h2
      exact hu
    · rename_i hty hu
      rw [hty]
      exact hu
    · rename_i hty hu
      rw [hty]
      exact hu
    · rename_i e el hty hu
      simp only [Bool.and_eq_true] at h2
      rw [hty]
      have := Nat.eq_of_beq_eq_true h2.1
      subst this
      refine ⟨hu, ?_⟩
      have h3 := h2.2
      split at h3
      · rename_i j hj
        exact ⟨j, hj, by simpa using h3⟩
      · simp at h3
    · rename_i a b fs hty hu
      simp only [Bool.and_eq_true] at h2
      obtain ⟨⟨b1, b2⟩, b3⟩ := h2
      rw [hty]
      unfold eqPs at b1
      split at b1
      · rename_i l hl
        have : l = i.offs.zip i.szs := by simpa using b1
        subst this
        refine ⟨fs, hu, fun k o ho => ?_, hl⟩
        have hlen := Nat.eq_of_beq_eq_true b3
        have hk := (List.getElem?_eq_some_iff.1 ho).1
        obtain ⟨sz, hsz⟩ : ∃ sz, i.szs[k]? = some sz := ⟨_, List.getElem?_eq_getElem (by omega)⟩
        obtain ⟨_, h3⟩ := mapM_get hl
        obtain ⟨f, f1, f2⟩ := h3 k (o, sz) (by rw [List.getElem?_zip_eq_some]; exact ⟨ho, hsz⟩)
        simp only [Option.map_eq_some_iff, Prod.mk.injEq] at f2
        obtain ⟨j, j1, j2, j3⟩ := f2
        refine ⟨f, j, by simpa using f1, j2, j1, ?_⟩
        rw [j3]
        have := List.all_eq_true.1 b2 sz (List.mem_of_getElem? hsz)
        simpa using this
      · simp at b1
    · simp at h2

theorem lookT_mem : ∀ {l : List (Nat × TI)} {t : Nat} {i : TI}, lookT l t = some i → (t, i) ∈ l
  | [], _, _, h => by simp [lookT] at h
  | (j, k) :: l, t, i, h => by
    simp only [lookT] at h
    cases hb : Nat.beq j t with
    | true =>
      rw [hb] at h
      simp only [cond_true, Option.some.injEq] at h
      subst h
      rw [Nat.eq_of_beq_eq_true hb]
      exact List.mem_cons_self
    | false =>
      rw [hb] at h
      exact List.mem_cons_of_mem _ (lookT_mem h)

theorem tabOk_of {P : Program} (l : List (Nat × TI)) (h : (l.all fun x => tiB P (lookT l) x.1 x.2) = true) : TabOk P (lookT l) :=
  fun t i hi => tiB_ok (List.all_eq_true.1 h (t, i) (lookT_mem hi))

/-! ### short words -/
abbrev i64 : Ty := .int .i64
abbrev u8 : Ty := .int .u8
abbrev I (x : Int) : AV := .lf (.v (.int .i64) x)
abbrev U (x : Int) : AV := .lf (.v (.int .u8) x)
abbrev B (x : Bool) : AV := .lf (.v .bool x)
abbrev S (x : ByteArray) : AV := .lf (.v .str x)
abbrev L (t : Ty) (x : List t.den) : AV := .lf (.v (.sl t) x)
abbrev hd (id ver : Nat) : AV := .lf (.hd id ver none)
abbrev pt (id : Nat) : AV := .lf (.ptr id 0 0 0)
abbrev ar (ver : Nat) (t : Ty) (xs : List t.den) (m : Md) : Option Blk := some (.arr ver t xs m)
abbrev bx (l : List Lf) (t : TypeId) : Option Blk := some (.box l t)
abbrev rI (x : Int) : RC := .lf (.v (.int .i64) x)
abbrev rB (x : Bool) : RC := .lf (.v .bool x)
abbrev rS (x : ByteArray) : RC := .lf (.v .str x)
abbrev rL (t : Ty) (x : List t.den) : RC := .lf (.v (.sl t) x)
abbrev rO (t : Ty) (x : List t.den) (m : Md) : RC := .lf (.own t x m)
end Go.Proofs.Ytgpddckjpokclaa.Vc
