/- A calculus of values over the model, fifth part: cuts, and the step of a walk over an operation that only reads. It speaks of any program. -/
import Derived.Test.YtgpddckjpokclaaVc4
namespace Go.Proofs.Ytgpddckjpokclaa.Vc
open Go Go.RowKit
set_option linter.unusedVariables false

/-- A bound of a cut, where it is a number: its kind and it. -/
def bd : Option AV → Option (Option Int)
  | none => some none
  | some (.lf (.v (.int _) n)) => some (some n)
  | _ => none

def evCut (T : Tab) (H : Heap) (t : TypeId) : AV → Option Int → Option Int → Option (Prop × AV)
  | .lf (.v (.sl e) xs), lo, hi => cond (elemIs T t e) (match lo, hi with
    | none, none => some (True, .lf (.v (.sl e) xs))
    | none, some h => some (0 ≤ h ∧ h ≤ (xs.length : Int), .lf (.v (.sl e) (xs.take h.toNat)))
    | some l, none => some (0 ≤ l ∧ l ≤ (xs.length : Int), .lf (.v (.sl e) (xs.drop l.toNat)))
    | some l, some h => some (0 ≤ l ∧ l ≤ h ∧ h ≤ (xs.length : Int), .lf (.v (.sl e) ((xs.take h.toNat).drop l.toNat)))) none
  | .lf (.hd id ver none), lo, hi => match H[id]? with
    | some (some (.arr cur e xs _)) => cond (Nat.beq ver cur && elemIs T t e) (match lo, hi with
      | none, none => some (True, .lf (.hd id ver none))
      | none, some h => some (0 ≤ h ∧ h ≤ (xs.length : Int), .lf (.hd id ver (some (0, h.toNat))))
      | some l, none => some (0 ≤ l ∧ l ≤ (xs.length : Int), .lf (.hd id ver (some (l.toNat, xs.length - l.toNat))))
      | some l, some h => some (0 ≤ l ∧ l ≤ h ∧ h ≤ (xs.length : Int), .lf (.hd id ver (some (l.toNat, h.toNat - l.toNat))))) none
    | _ => none
  | .lf (.hd id ver (some (o, n))), lo, hi => match H[id]? with
    | some (some (.arr cur e xs _)) => cond (Nat.beq ver cur && elemIs T t e) (match lo, hi with
      | none, none => none
      | none, some h => some (0 ≤ h ∧ h ≤ (xs.length : Int) - (o : Int), .lf (.hd id ver (some (o, h.toNat))))
      | some l, none => some (0 ≤ l ∧ l ≤ (n : Int), .lf (.hd id ver (some (o + l.toNat, n - l.toNat))))
      | some l, some h => some (0 ≤ l ∧ l ≤ h ∧ h ≤ (xs.length : Int) - (o : Int), .lf (.hd id ver (some (o + l.toNat, h.toNat - l.toNat))))) none
    | _ => none
  | .lf (.v .str s), lo, hi => match T t with
    | some { ty := .str, .. } => match lo, hi with
      | none, none => none
      | none, some h => some (0 ≤ h ∧ h ≤ (s.size : Int), .lf (.v .str (s.extract 0 h.toNat)))
      | some l, none => some (0 ≤ l ∧ l ≤ (s.size : Int), .lf (.v .str (s.extract l.toNat s.size)))
      | some l, some h => some (0 ≤ l ∧ l ≤ h ∧ h ≤ (s.size : Int), .lf (.v .str (s.extract l.toNat h.toNat)))
    | _ => none
  | _, _, _ => none

def isSlice : AV → Bool
  | .lf (.v (.sl _) _) => true
  | .lf .nil => true
  | _ => false

def evSlice (T : Tab) (H : Heap) (t : TypeId) (x : AV) (lo hi mx : Option Int) : Option (Prop × AV) :=
  match mx with
  | none => evCut T H t x lo hi
  | some m => match T t with
    | some { ty := .sl _, .. } => cond (isSlice x) (some (lo = none ∧ hi = some 0 ∧ m = 0, .lf .nil)) (match x with
      | .lf (.hd id ver none) => match H[id]? with
        | some (some (.arr cur e xs _)) => cond (Nat.beq ver cur && elemIs T t e) (match lo, hi with
          | some l, some h => some (0 ≤ l ∧ l ≤ h ∧ h ≤ m ∧ m ≤ (xs.length : Int), .lf .any)
          | _, _ => none) none
        | _ => none
      | _ => none)
    | _ => none

section
variable {P : Program} {T : Tab} {w : World} {E : Env} {μ : Nat → Value} {H : Heap}

theorem bd_run {x : Option AV} {o : Option Int} (h : bd x = some o) {y : Option Value} (hxy : (x = none ∧ y = none) ∨ ∃ a b, x = some a ∧ y = some b ∧ AR w E μ H a b) :
    (o = none ∧ y = none) ∨ ∃ n k, o = some n ∧ y = some (.int k n) := by
  rcases hxy with ⟨rfl, rfl⟩ | ⟨a, b, rfl, rfl, hab⟩
  · simp [bd] at h; exact .inl ⟨h.symm, rfl⟩
  · unfold bd at h
    split at h
    · rename_i h1; simp at h1
    · rename_i k n h1
      simp only [Option.some.injEq] at h1
      subst h1
      simp only [AR, LR_int] at hab
      simp only [Option.some.injEq] at h
      exact .inr ⟨n, k, h.symm, by rw [hab]⟩
    · simp at h

theorem bound_run {k : IntKind} {x : Int} {y : Nat} (c : BoundsCode) (h0 : 0 ≤ x) (h1 : x ≤ (y : Int)) (w : World) : (Instr.sliceBound (.int k x) y c).run P w = .ok x.toNat w := by
  simp [Instr.sliceBound, asIntOf, h0, h1]

/-- The bounds of a cut that lies in what is there. -/
theorem bounds_run (s : Bool) {len cap : Nat} {lo hi : Option Value} {l h : Nat} (hlc : len ≤ cap) (hl : (lo = none ∧ l = 0) ∨ ∃ k n, lo = some (.int k n) ∧ 0 ≤ n ∧ n.toNat = l)
    (hh : (hi = none ∧ h = len) ∨ ∃ k n, hi = some (.int k n) ∧ 0 ≤ n ∧ n.toNat = h) (h1 : l ≤ h) (h2 : h ≤ cap) (w : World) :
    (Instr.sliceBounds s len cap lo hi none).run P w = .ok (l, h, cap) w := by
  unfold Instr.sliceBounds
  rcases hh with ⟨rfl, rfl⟩ | ⟨k, n, rfl, hn0, rfl⟩
  · rcases hl with ⟨rfl, rfl⟩ | ⟨k, n, rfl, hn0, rfl⟩
    · simp
    · simp [bound_run (k := k) _ hn0 (show n ≤ (h : Int) by omega) w]
  · rcases hl with ⟨rfl, rfl⟩ | ⟨k', n', rfl, hn0', rfl⟩
    · simp [bound_run (k := k) _ hn0 (show n ≤ (cap : Int) by omega) w]
    · simp [bound_run (k := k) _ hn0 (show n ≤ (cap : Int) by omega) w, bound_run (k := k') _ hn0' (show n' ≤ (n.toNat : Int) by omega) w]

theorem slice_run {t : TypeId} {ti ej : TI} (hT : TabOk P T) (hu : P.underlying t = some (.slice ti.elem)) (he : T ti.elem = some ej) {a : Option Addr} {len cap : Nat} {lo hi : Option Value} {l h : Nat} (hlc : len ≤ cap)
    (hl : (lo = none ∧ l = 0) ∨ ∃ k n, lo = some (.int k n) ∧ 0 ≤ n ∧ n.toNat = l)
    (hh : (hi = none ∧ h = len) ∨ ∃ k n, hi = some (.int k n) ∧ 0 ≤ n ∧ n.toNat = h) (h1 : l ≤ h) (h2 : h ≤ cap) (w : World) :
    (Instr.sliceAt t (.slice a len cap) lo hi none).run P w = .ok (.slice (if cap = l then a else a.map (·.add (l * ej.ty.lv))) (h - l) (cap - l)) w := by
  simp only [Instr.sliceAt, Sem.run_bind, run_underlying hu, Result.andThen_ok, Instr.slice, bounds_run true hlc hl hh h1 h2 w, hT.size he, Sem.run_pure]

theorem rep_cut {r r' : Root} {e : Ty} {xs : List e.den} {p : Nat → Pos} {y : Value} (h : Rep w E r (.sl e) xs .fz p (at0 y)) {l k : Nat} (h1 : l ≤ k) (h2 : k ≤ xs.length) :
    ∃ a c, y = .slice a xs.length c ∧ xs.length ≤ c ∧ (xs = [] ∨ 0 < xs.length) ∧ Rep w E r' (.sl e) ((xs.take k).drop l) .fz p (at0 (.slice (if c = l then a else a.map (·.add (l * e.lv))) (k - l) (c - l))) := by
  obtain ⟨v, hv, h⟩ := h
  simp only [at0, if_true, Option.some.injEq] at hv
  subst hv
  have hlen : ((xs.take k).drop l).length = k - l := by simp; omega
  rcases h with ⟨_, h⟩ | ⟨h, _⟩
  · rcases h with ⟨rfl, a, c, rfl⟩ | ⟨b, o, c, rfl, g1, g2, g3⟩
    · simp at h2
      subst h2
      have : l = 0 := by omega
      subst this
      exact ⟨a, c, rfl, by simp, .inl rfl, _, rfl, .inl ⟨rfl, .inl ⟨by simp, _, _, rfl⟩⟩⟩
    · refine ⟨_, c, rfl, g1, by rcases xs with _ | _ <;> simp, _, rfl, .inl ⟨rfl, ?_⟩⟩
      by_cases hc : c = l
      · refine .inl ⟨List.length_eq_zero_iff.1 (by omega), some ⟨b, o, none⟩, c - l, ?_⟩
        rw [if_pos hc, show k - l = 0 by omega]
      · refine .inr ⟨b, o + l * e.lv, c - l, ?_, by omega, g2, fun i hi => ?_⟩
        · rw [if_neg hc, hlen, Option.map_some, add_at]
        · have hi' : l + i < xs.length := by omega
          have := g3 (l + i) hi'
          have hx : ((xs.take k).drop l)[i] = xs[l + i] := by simp
          rw [hx]
          refine Rep.fz (fun b hb => ⟨hb, rfl⟩) e _ (fun j v _ hv => ?_) this
          rw [← hv]
          congr 1
          rw [Nat.add_mul]; omega
  · exact absurd rfl h

theorem evCut_run {k : Nat} (hT : TabOk P T) (hM : MR w E μ H k) {t : TypeId} {x v : AV} {lo hi : Option Int} {φ : Prop} (h : evCut T H t x lo hi = some (φ, v)) (hφ : φ) {y : Value} (hx : AR w E μ H x y) {lo' hi' : Option Value}
    (hlo : (lo = none ∧ lo' = none) ∨ ∃ n k, lo = some n ∧ lo' = some (.int k n)) (hhi : (hi = none ∧ hi' = none) ∨ ∃ n k, hi = some n ∧ hi' = some (.int k n)) :
    ∃ z, (Instr.sliceAt t y lo' hi' none).run P w = .ok z w ∧ AR w E μ H v z := by
  unfold evCut at h
  split at h
  · rename_i e xs
    cases he : elemIs T t e with
    | false => rw [he] at h; simp at h
    | true =>
      rw [he] at h
      simp only [cond_true] at h
      obtain ⟨ti, ej, f1, f2, f3, f4, f5⟩ := elemIs_under hT he
      have key : ∀ (l k : Nat) , l ≤ k → k ≤ xs.length → ((lo' = none ∧ l = 0) ∨ ∃ k n, lo' = some (.int k n) ∧ 0 ≤ n ∧ n.toNat = l) → ((hi' = none ∧ k = xs.length) ∨ ∃ q n, hi' = some (.int q n) ∧ 0 ≤ n ∧ n.toNat = k) →
          ∃ z, (Instr.sliceAt t y lo' hi' none).run P w = .ok z w ∧ AR w E μ H (.lf (.v (.sl e) ((xs.take k).drop l))) z := by
        intro l k h1 h2 h3 h4
        have hx' : Rep w E (.res 0) (.sl e) xs .fz (fun _ => .top) (at0 y) := hx
        obtain ⟨a, c, rfl, g1, _, g2⟩ := rep_cut (r' := .res 0) hx' h1 h2
        refine ⟨_, slice_run hT f3 f4 g1 h3 h4 h1 (by omega) w, ?_⟩
        rw [f5]
        exact g2
      rcases hlo with ⟨rfl, rfl⟩ | ⟨n, q, rfl, rfl⟩ <;> rcases hhi with ⟨rfl, rfl⟩ | ⟨n', q', rfl, rfl⟩ <;> simp only [Option.some.injEq, Prod.mk.injEq] at h <;> obtain ⟨rfl, rfl⟩ := h
      · have := key 0 xs.length (by omega) (by omega) (.inl ⟨rfl, rfl⟩) (.inl ⟨rfl, rfl⟩)
        simpa using this
      · have := key 0 n'.toNat (by omega) (by omega) (.inl ⟨rfl, rfl⟩) (.inr ⟨q', n', rfl, hφ.1, rfl⟩)
        simpa using this
      · have := key n.toNat xs.length (by omega) (by omega) (.inr ⟨q, n, rfl, hφ.1, rfl⟩) (.inl ⟨rfl, rfl⟩)
        simpa using this
      · exact key n.toNat n'.toNat (by omega) (by omega) (.inr ⟨q, n, rfl, hφ.1, rfl⟩) (.inr ⟨q', n', rfl, by omega, rfl⟩)
  · rename_i id ver
    split at h
    · rename_i cur e xs m hH
      cases hc : (Nat.beq ver cur && elemIs T t e) with
      | false => rw [hc] at h; simp at h
      | true =>
        rw [hc] at h
        simp only [cond_true] at h
        simp only [Bool.and_eq_true] at hc
        obtain ⟨hv, he⟩ := hc
        obtain ⟨ti, ej, f1, f2, f3, f4, f5⟩ := elemIs_under hT he
        simp only [AR, LR, hH] at hx
        replace hx := hx.2
        have hx' := hx.2 (Nat.eq_of_beq_eq_true hv)
        simp only [HdR] at hx'
        obtain ⟨hm, ha⟩ := hM.arr hH
        have hsh : ∃ a c, μ id = .slice a xs.length c ∧ xs.length ≤ c ∧ (xs = [] ∨ ∃ b, a = some ⟨b, 0, none⟩) := by
          rcases ha with ⟨rfl, a, ha⟩ | ⟨b, c, arr, ty, g1, g2, _⟩
          · exact ⟨a, 0, ha, by simp, .inl rfl⟩
          · exact ⟨_, c, g1, g2, .inr ⟨b, rfl⟩⟩
        obtain ⟨a, c, g1, g2, g3⟩ := hsh
        have key : ∀ (l k : Nat) , l ≤ k → k ≤ xs.length → ((lo' = none ∧ l = 0) ∨ ∃ k n, lo' = some (.int k n) ∧ 0 ≤ n ∧ n.toNat = l) → ((hi' = none ∧ k = xs.length) ∨ ∃ q n, hi' = some (.int q n) ∧ 0 ≤ n ∧ n.toNat = k) →
            ∃ z, (Instr.sliceAt t y lo' hi' none).run P w = .ok z w ∧ AR w E μ H (.lf (.hd id ver (some (l, k - l)))) z := by
          intro l k h1 h2 h3 h4
          subst hx'
          rw [g1]
          refine ⟨_, slice_run hT f3 f4 g2 h3 h4 h1 (by omega) w, ?_⟩
          simp only [AR, LR, hH, HdR]
          refine ⟨rfl, hx.1, fun _ => ?_⟩
          refine ⟨a, c, g1, g2, by omega, ?_, _, by rw [f5], fun hcl => if_neg hcl, fun hl => ?_⟩
          rotate_left
          · subst hl
            split
            · rfl
            · cases a with
              | none => rfl
              | some a => simp [Addr.add]
          rcases g3 with rfl | ⟨b, rfl⟩
          · exact .inl rfl
          · exact .inr ⟨b, rfl⟩
        rcases hlo with ⟨rfl, rfl⟩ | ⟨n, q, rfl, rfl⟩ <;> rcases hhi with ⟨rfl, rfl⟩ | ⟨n', q', rfl, rfl⟩ <;> simp only [Option.some.injEq, Prod.mk.injEq] at h <;> obtain ⟨rfl, rfl⟩ := h
        · subst hx'
          rw [g1]
          refine ⟨_, slice_run hT f3 f4 g2 (.inl ⟨rfl, rfl⟩) (.inl ⟨rfl, rfl⟩) (by omega) g2 w, ?_⟩
          simp only [AR, LR, hH, HdR]
          refine ⟨rfl, hx.1, fun _ => ?_⟩
          rw [g1]
          congr 1
          split
          · rfl
          · cases a with
            | none => rfl
            | some a => simp [Addr.add]
        · have := key 0 n'.toNat (by omega) (by omega) (.inl ⟨rfl, rfl⟩) (.inr ⟨q', n', rfl, hφ.1, rfl⟩)
          simpa using this
        · exact key n.toNat xs.length (by omega) (by omega) (.inr ⟨q, n, rfl, hφ.1, rfl⟩) (.inl ⟨rfl, rfl⟩)
        · exact key n.toNat n'.toNat (by omega) (by omega) (.inr ⟨q, n, rfl, hφ.1, rfl⟩) (.inr ⟨q', n', rfl, by omega, rfl⟩)
    · simp at h
  · rename_i id ver o nn
    split at h
    · rename_i cur e xs m hH
      cases hc : (Nat.beq ver cur && elemIs T t e) with
      | false => rw [hc] at h; simp at h
      | true =>
        rw [hc] at h
        simp only [cond_true] at h
        simp only [Bool.and_eq_true] at hc
        obtain ⟨hv, he⟩ := hc
        obtain ⟨ti, ej, f1, f2, f3, f4, f5⟩ := elemIs_under hT he
        simp only [AR, LR, hH] at hx
        replace hx := hx.2
        obtain ⟨a, c, g1, g2, g3, g4, a', rfl, g5, g6⟩ := hx.2 (Nat.eq_of_beq_eq_true hv)
        have key : ∀ (l k : Nat) , l ≤ k → o + k ≤ xs.length → ((lo' = none ∧ l = 0) ∨ ∃ k n, lo' = some (.int k n) ∧ 0 ≤ n ∧ n.toNat = l) → ((hi' = none ∧ k = nn) ∨ ∃ q n, hi' = some (.int q n) ∧ 0 ≤ n ∧ n.toNat = k) →
            ∃ z, (Instr.sliceAt t (.slice a' nn (c - o)) lo' hi' none).run P w = .ok z w ∧ AR w E μ H (.lf (.hd id ver (some (o + l, k - l)))) z := by
          intro l k h1 h2 h3 h4
          refine ⟨_, slice_run hT f3 f4 (by omega) h3 h4 h1 (by omega) w, ?_⟩
          simp only [AR, LR, hH, HdR]
          refine ⟨rfl, hx.1, fun _ => ⟨a, c, g1, g2, by omega, g4, _, by rw [Nat.sub_sub], fun hcl => ?_, fun hl => ?_⟩⟩
          · rw [if_neg (by omega), g5 (by omega), f5]
            rcases g4 with h0 | ⟨b, rfl⟩
            · have e1 : o = 0 := by omega
              have e2 : l = 0 := by omega
              subst e1 e2
              cases a <;> simp [Addr.add]
            · simp only [Option.map_some, add_at, Nat.zero_add]
              congr 2
              rw [Nat.add_mul]
          · have ho : o = 0 := by omega
            have hl0 : l = 0 := by omega
            subst hl0
            rw [g6 ho]
            split
            · rfl
            · cases a with
              | none => rfl
              | some a => simp [Addr.add]
        rcases hlo with ⟨rfl, rfl⟩ | ⟨n, q, rfl, rfl⟩ <;> rcases hhi with ⟨rfl, rfl⟩ | ⟨n', q', rfl, rfl⟩ <;> simp only [Option.some.injEq, Prod.mk.injEq, reduceCtorEq] at h <;> obtain ⟨rfl, rfl⟩ := h
        · have := key 0 n'.toNat (by omega) (by omega) (.inl ⟨rfl, rfl⟩) (.inr ⟨q', n', rfl, hφ.1, rfl⟩)
          simpa using this
        · exact key n.toNat nn (by omega) (by omega) (.inr ⟨q, n, rfl, hφ.1, rfl⟩) (.inl ⟨rfl, rfl⟩)
        · exact key n.toNat n'.toNat (by omega) (by omega) (.inr ⟨q, n, rfl, hφ.1, rfl⟩) (.inr ⟨q', n', rfl, by omega, rfl⟩)
    · simp at h
  · rename_i s
    split at h
    · rename_i e o hti
      have hu := (hT t _ hti).under
      simp only at hu
      simp only [AR, LR_str] at hx
      subst hx
      have key : ∀ (l k : Nat), l ≤ k → k ≤ ByteArray.size s → ((lo' = none ∧ l = 0) ∨ ∃ k n, lo' = some (.int k n) ∧ 0 ≤ n ∧ n.toNat = l) → ((hi' = none ∧ k = ByteArray.size s) ∨ ∃ q n, hi' = some (.int q n) ∧ 0 ≤ n ∧ n.toNat = k) →
          ∃ z, (Instr.sliceAt t (.string s) lo' hi' none).run P w = .ok z w ∧ AR w E μ H (.lf (.v .str (ByteArray.extract s l k))) z := by
        intro l k h1 h2 h3 h4
        refine ⟨.string (ByteArray.extract s l k), ?_, AR_str _⟩
        simp only [Instr.sliceAt, Sem.run_bind, run_underlying hu, Result.andThen_ok, Instr.slice, Option.isSome_none, Bool.false_eq_true, if_false, Sem.run_pure, bounds_run false (Nat.le_refl _) h3 h4 h1 h2 w]
      rcases hlo with ⟨rfl, rfl⟩ | ⟨n, q, rfl, rfl⟩ <;> rcases hhi with ⟨rfl, rfl⟩ | ⟨n', q', rfl, rfl⟩ <;> simp only [Option.some.injEq, Prod.mk.injEq, reduceCtorEq] at h <;> obtain ⟨rfl, rfl⟩ := h
      · exact key 0 n'.toNat (by omega) (by omega) (.inl ⟨rfl, rfl⟩) (.inr ⟨q', n', rfl, hφ.1, rfl⟩)
      · exact key n.toNat (ByteArray.size s) (by omega) (by omega) (.inr ⟨q, n, rfl, hφ.1, rfl⟩) (.inl ⟨rfl, rfl⟩)
      · exact key n.toNat n'.toNat (by omega) (by omega) (.inr ⟨q, n, rfl, hφ.1, rfl⟩) (.inr ⟨q', n', rfl, by omega, rfl⟩)
    · simp at h
  · simp at h
end
end Go.Proofs.Ytgpddckjpokclaa.Vc
