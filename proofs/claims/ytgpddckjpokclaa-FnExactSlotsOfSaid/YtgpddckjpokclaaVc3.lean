/- A calculus of values over the model, third part: the table of types, and the operations that only read. It speaks of any program. -/
import Derived.Test.YtgpddckjpokclaaVc2
import Derived.Laws.Cells
import Derived.Laws.Tables
import Derived.Laws.CopyRow
import Derived.ChangeKeysEq
namespace Go.Proofs.Ytgpddckjpokclaa.Vc
open Go Go.RowKit
set_option linter.unusedVariables false

/-! ### types -/
structure TI where
  ty : Ty
  elem : TypeId := 0
  offs : List Nat := []
  szs : List Nat := []

abbrev Tab := TypeId → Option TI

def Ty.zeros : Ty → List Value
  | .int k => [.int k 0]
  | .bool => [.bool false]
  | .str => [.string ByteArray.empty]
  | .sl _ => [.slice none 0 0]
  | .pair a b => a.zeros ++ b.zeros

def Ty.isPair : Ty → Bool
  | .pair _ _ => true
  | _ => false

structure TIOk (P : Program) (T : Tab) (t : TypeId) (i : TI) : Prop where
  info : ∃ info, P.info? t = some info ∧ info.size = i.ty.lv ∧ (info.zero.map fun z => z.cells.toList) = some i.ty.zeros ∧ 0 < info.bytes ∧ info.bytes ≤ 4096 ∧ info.bytes ≤ 16 * i.ty.lv + 8 * i.ty.lv
  under : match i.ty with
    | .int k => P.underlying t = some (.int k)
    | .bool => P.underlying t = some .bool
    | .str => P.underlying t = some .string
    | .sl e => P.underlying t = some (.slice i.elem) ∧ ∃ j, T i.elem = some j ∧ j.ty = e
    | .pair _ _ => ∃ fs : Array Field, P.underlying t = some (.struct fs) ∧
        (∀ (k o : Nat), i.offs[k]? = some o → ∃ f info', fs[k]? = some f ∧ f.offset = o ∧ P.info? f.type = some info' ∧ info'.size ≠ 0) ∧
        fs.toList.mapM (fun f => (P.info? f.type).map fun j => (f.offset, j.size)) = some (i.offs.zip i.szs)

def TabOk (P : Program) (T : Tab) : Prop := ∀ t i, T t = some i → TIOk P T t i

section
variable {P : Program} {T : Tab}

theorem TabOk.slice (h : TabOk P T) {t : TypeId} {i : TI} {e : Ty} (hi : T t = some i) (he : i.ty = .sl e) :
    P.underlying t = some (.slice i.elem) ∧ ∃ j, T i.elem = some j ∧ j.ty = e := by
  have := (h t i hi).under
  rw [he] at this
  exact this

theorem run_sizeOf' {t : TypeId} {info : TypeInfo} (h : P.info? t = some info) (w : World) : (sizeOf t).run P w = .ok info.size w := by
  simp [sizeOf, typeInfo, h]

theorem TabOk.size (h : TabOk P T) {t : TypeId} {i : TI} (hi : T t = some i) (w : World) : (sizeOf t).run P w = .ok i.ty.lv w := by
  obtain ⟨info, h1, h2, _⟩ := (h t i hi).info
  rw [run_sizeOf' h1, h2]

theorem TabOk.isAgg (h : TabOk P T) {t : TypeId} {i : TI} (hi : T t = some i) (w : World) : (isAgg t).run P w = .ok i.ty.isPair w := by
  have hu := (h t i hi).under
  cases hty : i.ty with
  | int k => rw [hty] at hu; simp only [Go.isAgg, Sem.run_bind, run_underlying hu, Result.andThen_ok, Sem.run_pure, Ty.isPair]
  | bool => rw [hty] at hu; simp only [Go.isAgg, Sem.run_bind, run_underlying hu, Result.andThen_ok, Sem.run_pure, Ty.isPair]
  | str => rw [hty] at hu; simp only [Go.isAgg, Sem.run_bind, run_underlying hu, Result.andThen_ok, Sem.run_pure, Ty.isPair]
  | sl e => rw [hty] at hu; simp only [Go.isAgg, Sem.run_bind, run_underlying hu.1, Result.andThen_ok, Sem.run_pure, Ty.isPair]
  | pair a b =>
    rw [hty] at hu
    obtain ⟨fs, hu, _⟩ := hu
    simp only [Go.isAgg, Sem.run_bind, run_underlying hu, Result.andThen_ok, Sem.run_pure, Ty.isPair]

theorem add_at (b o n : Nat) : (⟨b, o, none⟩ : Addr).add n = ⟨b, o + n, none⟩ := by
  unfold Addr.add
  split
  · rename_i h; subst h; rfl
  · rfl

/-- A variable is read. -/
theorem TabOk.loadVar (h : TabOk P T) {t : TypeId} {i : TI} (hi : T t = some i) (w : World) (b o : Nat) (cs : List Value) (hl : cs.length = i.ty.lv)
    (hc : ∀ (j : Nat) v, cs[j]? = some v → cellAt w b (o + j) = some v) :
    (loadVar t ⟨b, o, none⟩).run P w = .ok (if i.ty.isPair then .agg cs.toArray else cs.getD 0 undef) w := by
  unfold Go.loadVar
  simp only [Sem.run_bind, h.isAgg hi, Result.andThen_ok]
  by_cases hp : i.ty.isPair = true
  · simp only [hp, if_true, Sem.run_bind, h.size hi, Result.andThen_ok]
    rw [← hl, run_loadCells_list w ⟨b, o, none⟩ cs (fun j v hv => by rw [add_at]; exact hc j v hv)]
    simp
  · have hp' : i.ty.isPair = false := by simpa using hp
    have h1 : cs.length = 1 := by
      rw [hl]
      cases hty : i.ty <;> simp [Ty.lv, hty, Ty.isPair] at hp' ⊢
    match cs, h1 with
    | [v], _ =>
      have := hc 0 v rfl
      simp only [hp', Bool.false_eq_true, if_false, run_load]
      simp only [cellAt, Nat.add_zero] at this
      simp [this]
end

/-! ### the cells of a value -/
/-- Cell by cell, what a value holds; m: whose the rows inside are. -/
def leafs : (t : Ty) → t.den → Md → List Lf
  | .int k, x, _ => [.v (.int k) x]
  | .bool, x, _ => [.v .bool x]
  | .str, x, _ => [.v .str x]
  | .sl t, x, .fz => [.v (.sl t) x]
  | .sl _, _, _ => [.any]
  | .pair a b, x, m => leafs a x.1 m ++ leafs b x.2 m

theorem leafs_length : ∀ (t : Ty) (x : t.den) (m : Md), (leafs t x m).length = t.lv
  | .int _, _, _ => rfl
  | .bool, _, _ => rfl
  | .str, _, _ => rfl
  | .sl _, _, .fz => rfl
  | .sl _, _, .tp => rfl
  | .sl _, _, .dp => rfl
  | .pair a b, x, m => by simp [leafs, leafs_length a, leafs_length b, Ty.lv]

theorem at0_of {g : Nat → Option Value} {y : Value} (h : g 0 = some y) : ∀ j v, at0 y j = some v → g j = some v := by
  intro j v hv
  simp only [at0] at hv
  split at hv
  · rename_i hj; subst hj; rw [h]; exact hv
  · simp at hv

theorem rep_sl_one {w : World} {E : Env} {r : Root} {t : Ty} {xs : List t.den} {m : Md} {p : Nat → Pos} {g : Nat → Option Value} (h : Rep w E r (.sl t) xs m p g) {v : Value} (hv : g 0 = some v) : v.oneCell' = true := by
  obtain ⟨v', h1, h2⟩ := h
  rw [hv] at h1
  simp only [Option.some.injEq] at h1
  subst h1
  rcases h2 with ⟨_, ⟨_, a, c, rfl⟩ | ⟨b, o, c, rfl, _⟩⟩ | ⟨_, ⟨_, a, rfl⟩ | ⟨b, c, arr, ty, rfl, _⟩⟩ <;> rfl

theorem leafs_at {w : World} {E : Env} {μ : Nat → Value} {H : Heap} {r : Root} : ∀ (t : Ty) (x : t.den) (m : Md) (p : Nat → Pos) (g : Nat → Option Value), Rep w E r t x m p g →
    ∀ (j : Nat) a, (leafs t x m)[j]? = some a → ∃ y, g j = some y ∧ LR w E μ H a y
  | .int k, x, m, p, g, h, j, a, ha => by
    cases j with
    | zero => simp [leafs] at ha; subst ha; exact ⟨_, h, by simp [LR, Rep, at0]⟩
    | succ j => simp [leafs] at ha
  | .bool, x, m, p, g, h, j, a, ha => by
    cases j with
    | zero => simp [leafs] at ha; subst ha; exact ⟨_, h, by simp [LR, Rep, at0]⟩
    | succ j => simp [leafs] at ha
  | .str, x, m, p, g, h, j, a, ha => by
    cases j with
    | zero => simp [leafs] at ha; subst ha; exact ⟨_, h, by simp [LR, Rep, at0]⟩
    | succ j => simp [leafs] at ha
  | .sl t, x, m, p, g, h, j, a, ha => by
    have h0 := h
    obtain ⟨v, hv, _⟩ := h
    cases j with
    | zero =>
      refine ⟨v, hv, ?_⟩
      cases m with
      | fz =>
        simp [leafs] at ha
        subst ha
        show Rep w E (.res 0) (.sl t) x .fz (fun _ => .top) (at0 v)
        obtain ⟨v', hv', h1⟩ := h0
        have e : v' = v := by rw [hv] at hv'; simpa using hv'.symm
        subst e
        refine ⟨v', by simp [at0], ?_⟩
        rcases h1 with ⟨_, h1⟩ | ⟨h1, _⟩
        · refine .inl ⟨rfl, ?_⟩
          rcases h1 with h1 | ⟨b, o, c, e1, e2, e3, e4⟩
          · exact .inl h1
          · exact .inr ⟨b, o, c, e1, e2, e3, fun i hi => Rep.fz (fun b hb => ⟨hb, rfl⟩) t _ (fun _ _ _ h => h) (e4 i hi)⟩
        · exact absurd rfl h1
      | tp => simp [leafs] at ha; subst ha; exact rep_sl_one h0 hv
      | dp => simp [leafs] at ha; subst ha; exact rep_sl_one h0 hv
    | succ j => cases m <;> simp [leafs] at ha
  | .pair t u, x, m, p, g, h, j, a, ha => by
    simp only [leafs, List.getElem?_append, leafs_length] at ha
    split at ha
    · exact leafs_at t x.1 m p g h.1 j a ha
    · rename_i hj
      obtain ⟨y, h1, h2⟩ := leafs_at u x.2 m _ _ h.2 (j - t.lv) a ha
      exact ⟨y, by have e : j - t.lv + t.lv = j := by omega
                   rw [e] at h1; exact h1, h2⟩

/-! ### operations that only read -/
def binI (op : BinOp) (k : IntKind) (a b : Int) : Option (Prop × AV) :=
  match op with
  | .add => some (True, .lf (.v (.int k) (k.wrap (a + b))))
  | .sub => some (True, .lf (.v (.int k) (k.wrap (a - b))))
  | .mul => some (True, .lf (.v (.int k) (k.wrap (a * b))))
  | .quo => some (b ≠ 0, .lf (.v (.int k) (k.wrap (a.tdiv b))))
  | .rem => some (b ≠ 0, .lf (.v (.int k) (a.tmod b)))
  | .and => some (True, .lf (.v (.int k) (k.wrap (BitVec.ofInt k.bits a &&& BitVec.ofInt k.bits b).toNat)))
  | .or => some (True, .lf (.v (.int k) (k.wrap (BitVec.ofInt k.bits a ||| BitVec.ofInt k.bits b).toNat)))
  | .xor => some (True, .lf (.v (.int k) (k.wrap (BitVec.ofInt k.bits a ^^^ BitVec.ofInt k.bits b).toNat)))
  | .eql => some (True, .lf (.v .bool (a == b)))
  | .neq => some (True, .lf (.v .bool (a != b)))
  | .lss => some (True, .lf (.v .bool (decide (a < b))))
  | .leq => some (True, .lf (.v .bool (decide (a ≤ b))))
  | .gtr => some (True, .lf (.v .bool (decide (a > b))))
  | .geq => some (True, .lf (.v .bool (decide (a ≥ b))))
  | _ => none

def binSh (op : BinOp) (k : IntKind) (a b : Int) : Option (Prop × AV) :=
  match op with
  | .shl => some (0 ≤ b, .lf (.v (.int k) (k.wrap (a * 2 ^ (min b.toNat k.bits)))))
  | .shr => some (0 ≤ b, .lf (.v (.int k) (a.fdiv (2 ^ (min b.toNat k.bits)))))
  | _ => none

def binS (op : BinOp) (a b : ByteArray) : Option (Prop × AV) :=
  match op with
  | .add => some (a.size + b.size ≤ 9223372036854775807, .lf (.v .str (a ++ b)))
  | .eql => some (True, .lf (.v .bool (a.toList == b.toList)))
  | .neq => some (True, .lf (.v .bool (!(a.toList == b.toList))))
  | .lss => some (True, .lf (.v .bool (Op.bytesLess a.toList b.toList)))
  | .geq => some (True, .lf (.v .bool (!(Op.bytesLess a.toList b.toList))))
  | .leq => some (True, .lf (.v .bool (Op.bytesLess a.toList b.toList || a.toList == b.toList)))
  | .gtr => some (True, .lf (.v .bool (!(Op.bytesLess a.toList b.toList || a.toList == b.toList))))
  | _ => none

def binB (T : Tab) (t : TypeId) (op : BinOp) (a b : Bool) : Option (Prop × AV) :=
  match T t with
  | some { ty := .bool, .. } => match op with
    | .eql => some (True, .lf (.v .bool (a == b)))
    | .neq => some (True, .lf (.v .bool (!(a == b))))
    | _ => none
  | _ => none

def isSh : BinOp → Bool
  | .shl | .shr => true
  | _ => false

def bin (T : Tab) (op : BinOp) (t : TypeId) : AV → AV → Option (Prop × AV)
  | .lf (.v (.int k) a), .lf (.v (.int k') b) => cond (isSh op) (binSh op k a b) (if k = k' then binI op k a b else none)
  | .lf (.v .str a), .lf (.v .str b) => binS op a b
  | .lf (.v .bool a), .lf (.v .bool b) => binB T t op a b
  | _, _ => none

theorem LR_int {w : World} {E : Env} {μ : Nat → Value} {H : Heap} {k : IntKind} {x : Int} {y : Value} : LR w E μ H (.v (.int k) x) y ↔ y = .int k x := by
  simp [LR, Rep, at0]
theorem LR_bool {w : World} {E : Env} {μ : Nat → Value} {H : Heap} {x : Bool} {y : Value} : LR w E μ H (.v .bool x) y ↔ y = .bool x := by
  simp [LR, Rep, at0]
theorem LR_str {w : World} {E : Env} {μ : Nat → Value} {H : Heap} {x : ByteArray} {y : Value} : LR w E μ H (.v .str x) y ↔ y = .string x := by
  simp [LR, Rep, at0]

section
variable {P : Program} {T : Tab}
theorem AR_int {w : World} {E : Env} {μ : Nat → Value} {H : Heap} (k : IntKind) (x : Int) : AR w E μ H (.lf (.v (.int k) x)) (.int k x) := by simp only [AR, LR_int]
theorem AR_bool {w : World} {E : Env} {μ : Nat → Value} {H : Heap} (x : Bool) : AR w E μ H (.lf (.v .bool x)) (.bool x) := by simp only [AR, LR_bool]
theorem AR_str {w : World} {E : Env} {μ : Nat → Value} {H : Heap} (x : ByteArray) : AR w E μ H (.lf (.v .str x)) (.string x) := by simp only [AR, LR_str]

theorem binI_run {P : Program} {op : BinOp} {k : IntKind} {a b : Int} {φ : Prop} {v : AV} (h : binI op k a b = some (φ, v)) (hφ : φ) (t : TypeId) (w : World) (E : Env) (μ : Nat → Value) (H : Heap) :
    ∃ y, (binOp op t (.int k a) (.int k b)).run P w = .ok y w ∧ AR w E μ H v y := by
  cases op <;> simp only [binI, Option.some.injEq, Prod.mk.injEq, reduceCtorEq] at h <;> obtain ⟨rfl, rfl⟩ := h <;>
    simp [binOp, Op.intArith, Op.intDiv, Op.intBits, Op.intCmp, AR, LR_int, LR_bool] <;> simp_all

theorem binSh_run {P : Program} {op : BinOp} {k k' : IntKind} {a b : Int} {φ : Prop} {v : AV} (h : binSh op k a b = some (φ, v)) (hφ : φ) (t : TypeId) (w : World) (E : Env) (μ : Nat → Value) (H : Heap) :
    ∃ y, (binOp op t (.int k a) (.int k' b)).run P w = .ok y w ∧ AR w E μ H v y := by
  cases op <;> simp only [binSh, Option.some.injEq, Prod.mk.injEq, reduceCtorEq] at h <;> obtain ⟨rfl, rfl⟩ := h <;>
    simp [binOp, Op.shift, AR, LR_int, show ¬ b < 0 by omega]

theorem binS_run {P : Program} {op : BinOp} {a b : ByteArray} {φ : Prop} {v : AV} (h : binS op a b = some (φ, v)) (hφ : φ) (t : TypeId) (w : World) (E : Env) (μ : Nat → Value) (H : Heap) :
    ∃ y, (binOp op t (.string a) (.string b)).run P w = .ok y w ∧ AR w E μ H v y := by
  cases op <;> simp only [binS, Option.some.injEq, Prod.mk.injEq, reduceCtorEq] at h <;> obtain ⟨rfl, rfl⟩ := h
  case add =>
    have h1 : ¬ ((a.size + b.size : Nat) : Int) > IntKind.i64.max := by
      have : IntKind.i64.max = 9223372036854775807 := by decide
      rw [this]; omega
    simp only [binOp, Op.stringOp, if_neg h1]
    exact ⟨_, rfl, (LR_str (w := w) (E := E) (μ := μ) (H := H)).2 rfl⟩
  all_goals exact ⟨_, rfl, (LR_bool (w := w) (E := E) (μ := μ) (H := H)).2 rfl⟩

theorem equalIn_bool (d : Nat) {t : TypeId} (hu : P.underlying t = some .bool) (a b : Bool) (w : World) : (Op.equalIn (d + 1) t (.bool a) (.bool b)).run P w = .ok (a == b) w := by
  simp only [Op.equalIn, Sem.run_bind, run_underlying hu, Result.andThen_ok, Sem.run_pure]

theorem binB_run {op : BinOp} {a b : Bool} {φ : Prop} {v : AV} {t : TypeId} (hT : TabOk P T) (h : binB T t op a b = some (φ, v)) (hφ : φ) (w : World) (E : Env) (μ : Nat → Value) (H : Heap) :
    ∃ y, (binOp op t (.bool a) (.bool b)).run P w = .ok y w ∧ AR w E μ H v y := by
  unfold binB at h
  split at h
  · rename_i e o hi
    have hu := (hT t _ hi).under
    simp only at hu
    have he : (Op.equal t (.bool a) (.bool b)).run P w = .ok (a == b) w := equalIn_bool 9999 hu a b w
    cases op <;> simp only [Option.some.injEq, Prod.mk.injEq, reduceCtorEq] at h <;> obtain ⟨rfl, rfl⟩ := h
    · exact ⟨.bool (a == b), by simp [binOp, he], (LR_bool (w := w) (E := E) (μ := μ) (H := H)).2 rfl⟩
    · exact ⟨.bool (!(a == b)), by simp [binOp, he], (LR_bool (w := w) (E := E) (μ := μ) (H := H)).2 rfl⟩
  · simp at h

theorem bin_run {op : BinOp} {x y : AV} {φ : Prop} {v : AV} {t : TypeId} (hT : TabOk P T) (h : bin T op t x y = some (φ, v)) (hφ : φ) (w : World) (E : Env) (μ : Nat → Value) (H : Heap) {a b : Value}
    (ha : AR w E μ H x a) (hb : AR w E μ H y b) :
    (∃ k n k' n', a = .int k n ∧ b = .int k' n' ∨ ∃ s s', a = .string s ∧ b = .string s' ∨ ∃ p q, a = .bool p ∧ b = .bool q) ∧ ∃ z, (binOp op t a b).run P w = .ok z w ∧ AR w E μ H v z := by
  unfold bin at h
  split at h
  · rename_i k m k' n
    simp only [AR, LR_int] at ha hb
    subst ha hb
    refine ⟨⟨k, m, k', n, .inl ⟨rfl, rfl⟩⟩, ?_⟩
    cases hs : isSh op with
    | true => rw [hs] at h; exact binSh_run h hφ t w E μ H
    | false =>
      rw [hs] at h
      simp only [cond_false] at h
      split at h
      · rename_i hk; subst hk; exact binI_run h hφ t w E μ H
      · simp at h
  · rename_i m n
    simp only [AR, LR_str] at ha hb
    subst ha hb
    exact ⟨⟨.i64, 0, .i64, 0, .inr ⟨m, n, .inl ⟨rfl, rfl⟩⟩⟩, binS_run h hφ t w E μ H⟩
  · rename_i m n
    simp only [AR, LR_bool] at ha hb
    subst ha hb
    exact ⟨⟨.i64, 0, .i64, 0, .inr ⟨.empty, .empty, .inr ⟨m, n, rfl, rfl⟩⟩⟩, binB_run hT h hφ w E μ H⟩
  · simp at h

/-- 'eqGuard' has nothing to say of numbers, texts and flags. -/
theorem eqGuard_run {op : BinOp} {t : TypeId} {x y : Operand} {a b : Value} (h : ∃ k n k' n', a = .int k n ∧ b = .int k' n' ∨ ∃ s s', a = .string s ∧ b = .string s' ∨ ∃ p q, a = .bool p ∧ b = .bool q) (w : World) :
    (eqGuard op t x y a b).run P w = .ok () w := by
  obtain ⟨k, n, k', n', ⟨rfl, rfl⟩ | ⟨s, s', ⟨rfl, rfl⟩ | ⟨p, q, rfl, rfl⟩⟩⟩ := h <;> (unfold eqGuard; split <;> rfl)
end
end Go.Proofs.Ytgpddckjpokclaa.Vc
