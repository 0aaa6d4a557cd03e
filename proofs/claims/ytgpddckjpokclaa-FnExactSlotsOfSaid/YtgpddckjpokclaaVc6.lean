/- A calculus of values over the model, sixth part: one step of a walk over an operation that only reads. It speaks of any program. -/
import Derived.Test.YtgpddckjpokclaaVc5
namespace Go.Proofs.Ytgpddckjpokclaa.Vc
open Go Go.RowKit
set_option linter.unusedVariables false

def un : UnOp → AV → Option (Prop × AV)
  | .not, .lf (.v .bool b) => some (True, .lf (.v .bool (!b)))
  | .neg, .lf (.v (.int k) n) => some (True, .lf (.v (.int k) (k.wrap ((0 : Int) - n))))
  | _, _ => none

def conv (T : Tab) (src dst : TypeId) : AV → Option (Prop × AV)
  | .lf (.v (.int _) n) => match T src, T dst with
    | some { ty := .int _, .. }, some { ty := .int k, .. } => some (True, .lf (.v (.int k) (k.wrap n)))
    | _, _ => none
  | _ => none

def svAV : SV → AV
  | .lf a => .lf a
  | .agg l => .agg l

def avSV : AV → Option SV
  | .lf a => some (.lf a)
  | .agg l => some (.agg l)
  | _ => none

def nth (i : Nat) : AV → Option (Prop × AV)
  | .tup l => (l[i]?).map fun x => (True, svAV x)
  | _ => none

def nilc (H : Heap) : AV → Option (Prop × AV)
  | .lf (.ptr id ver i j) => cond (fresh H id ver) (some (True, .lf (.ptr id ver i j))) none
  | .lf (.fp t x j) => some (True, .lf (.fp t x j))
  | _ => none

def mnx (b : Builtin) : AV → AV → Option (Prop × AV)
  | .lf (.v (.int k) x), .lf (.v (.int k') y) => cond (decide (k = k')) (match b with
    | .min => some (True, .lf (.v (.int k) (if (y : Int) < x then y else x)))
    | .max => some (True, .lf (.v (.int k) (if (x : Int) < y then y else x)))
    | _ => none) none
  | _, _ => none

def caps (sl : List (Nat × AV)) : List Operand → Option (List SV)
  | [] => some []
  | x :: l => match opnd sl x with
    | some v => match avSV v, caps sl l with
      | some a, some r => some (a :: r)
      | _, _ => none
    | none => none

def evCall (T : Tab) (s : St) (c : Call) : Option (Prop × AV) :=
  match c.callee with
  | .builtin b => match c.args.toList with
    | [x] => match b with
      | .len => match opnd s.sl x, c.argTypes[0]? with
        | some v, some t => evLen T s.H t v
        | _, _ => none
      | _ => none
    | [x, y] => match opnd s.sl x, opnd s.sl y with
      | some v, some u => mnx b v u
      | _, _ => none
    | _ => none
  | _ => none

def evOp (T : Tab) (s : St) : Op → Option (Prop × AV)
  | .move x => (opnd s.sl x).map fun v => (True, v)
  | .assign x => (opnd s.sl x).map fun v => (True, v)
  | .load t x => match opnd s.sl x with
    | some v => evLoad T s.H t v
    | none => none
  | .fieldAddr t x f => match opnd s.sl x with
    | some v => evField T s.H t f v
    | none => none
  | .indexAddr t x i => match opnd s.sl x, opnd s.sl i with
    | some v, some u => evIndexAddr T s.H t v u
    | _, _ => none
  | .index t x i => match opnd s.sl x, opnd s.sl i with
    | some v, some u => evIndex T t v u
    | _, _ => none
  | .slice t x lo hi mx => match opnd s.sl x, (match lo with | none => some none | some o => (opnd s.sl o).map some), (match hi with | none => some none | some o => (opnd s.sl o).map some),
      (match mx with | none => some none | some o => (opnd s.sl o).map some) with
    | some v, some l, some h, some m => match bd l, bd h, bd m with
      | some l', some h', some m' => evSlice T s.H t v l' h' m'
      | _, _, _ => none
    | _, _, _, _ => none
  | .binOp op t x y _ => match opnd s.sl x, opnd s.sl y with
    | some v, some u => bin T op t v u
    | _, _ => none
  | .unOp op _ x => match opnd s.sl x with
    | some v => un op v
    | none => none
  | .convert a b x => match opnd s.sl x with
    | some v => conv T a b v
    | none => none
  | .extract x i => match opnd s.sl x with
    | some v => nth i v
    | none => none
  | .nilCheck x => match opnd s.sl x with
    | some v => nilc s.H v
    | none => none
  | .makeFunc (.func f) first l => match first.toList, caps s.sl l.toList with
    | [], some r => some (True, .clo f r)
    | _, _ => none
  | .call c => evCall T s c
  | _ => none

section
variable {P : Program} {T : Tab} {n : Nat} {w0 : World} {E0 : Env0} {s : St} {a : Act} {w : World} {E : Env} {μ : Nat → Value}

theorem svAV_AR {w : World} {E : Env} {μ : Nat → Value} {H : Heap} {x : SV} {y : Value} (h : SR w E μ H x y) : AR w E μ H (svAV x) y := by
  cases x with
  | lf a => exact h
  | agg l => exact h

theorem avSV_SR {w : World} {E : Env} {μ : Nat → Value} {H : Heap} {v : AV} {x : SV} (h : avSV v = some x) {y : Value} (hv : AR w E μ H v y) : SR w E μ H x y := by
  cases v <;> simp [avSV] at h <;> subst h <;> exact hv

theorem caps_SR (hA : At n w0 E0 s a w E μ) : ∀ {l : List Operand} {r : List SV}, caps s.sl l = some r → All2 (SR w E μ s.H) r (l.map a.eval)
  | [], r, h => by simp [caps] at h; subst h; exact .nil
  | x :: l, r, h => by
    simp only [caps] at h
    split at h
    · rename_i v hv
      split at h
      · rename_i b r' h1 h2
        simp at h
        subst h
        exact .cons (avSV_SR h1 (hA.opnd hv)) (caps_SR hA h2)
      · simp at h
    · simp at h

theorem evOp_run (hT : TabOk P T) (hA : At n w0 E0 s a w E μ) {o : Oper} {φ : Prop} {v : AV} (h : evOp T s o.op = some (φ, v)) (hφ : φ) :
    ∃ y, (execOp a.eval o).run P w = .ok (.value y) w ∧ AR w E μ s.H v y := by
  unfold evOp at h
  split at h
  · rename_i x ho
    simp only [Option.map_eq_some_iff, Prod.mk.injEq] at h
    obtain ⟨v', h1, rfl, rfl⟩ := h
    exact ⟨a.eval x, by simp [execOp, ho], hA.opnd h1⟩
  · rename_i x ho
    simp only [Option.map_eq_some_iff, Prod.mk.injEq] at h
    obtain ⟨v', h1, rfl, rfl⟩ := h
    exact ⟨a.eval x, by simp [execOp, ho], hA.opnd h1⟩
  · rename_i t x ho
    split at h
    · rename_i v' hv
      obtain ⟨z, h1, h2⟩ := evLoad_run hT hA.mr h hφ (hA.opnd hv)
      exact ⟨z, by simp [execOp, ho, h1], h2⟩
    · simp at h
  · rename_i t x f ho
    split at h
    · rename_i v' hv
      obtain ⟨z, h1, h2⟩ := evField_run hT h (hA.opnd hv)
      exact ⟨z, by simp [execOp, ho, h1], h2⟩
    · simp at h
  · rename_i t x i ho
    split at h
    · rename_i v' u' hv hu
      obtain ⟨z, h1, h2⟩ := evIndexAddr_run hT hA.mr h hφ (hA.opnd hv) (hA.opnd hu)
      exact ⟨z, by simp [execOp, ho, h1], h2⟩
    · simp at h
  · rename_i t x i ho
    split at h
    · rename_i v' u' hv hu
      obtain ⟨z, h1, h2⟩ := evIndex_run hT h hφ (hA.opnd hv) (hA.opnd hu)
      exact ⟨z, by simp [execOp, ho, h1], h2⟩
    · simp at h
  · rename_i t x lo hi mx ho
    split at h
    · rename_i v' l u m hv hl hu hm
      split at h
      · rename_i l' h' m' e1 e2 e3
        have hb : ∀ {q : Option Operand} {r : Option AV}, (match q with | none => some none | some o => (opnd s.sl o).map some) = some r → (r = none ∧ q.map a.eval = none) ∨ ∃ c d, r = some c ∧ q.map a.eval = some d ∧ AR w E μ s.H c d := by
          intro q r hq
          cases q with
          | none => simp at hq; exact .inl ⟨hq.symm, rfl⟩
          | some o =>
            simp only [Option.map_eq_some_iff] at hq
            obtain ⟨c, hc, rfl⟩ := hq
            exact .inr ⟨c, a.eval o, rfl, rfl, hA.opnd hc⟩
        have b1 := bd_run e1 (hb hl)
        have b2 := bd_run e2 (hb hu)
        have b3 := bd_run e3 (hb hm)
        unfold evSlice at h
        split at h
        · rcases b3 with ⟨_, b3⟩ | ⟨_, _, b3, _⟩
          · obtain ⟨z, h1, h2⟩ := evCut_run hT hA.mr h hφ (hA.opnd hv) b1 b2
            exact ⟨z, by simp [execOp, ho, b3, h1], h2⟩
          · simp at b3
        · rename_i m0
          split at h
          · rename_i e0 el0 of0 hti
            cases hs : isSlice v' with
            | false =>
              rw [hs] at h
              simp only [cond_false] at h
              split at h
              · rename_i id ver
                split at h
                · rename_i cur e xs mm hH
                  cases hc : (Nat.beq ver cur && elemIs T t e) with
                  | false => rw [hc] at h; simp at h
                  | true =>
                    rw [hc] at h
                    simp only [cond_true] at h
                    simp only [Bool.and_eq_true] at hc
                    split at h
                    · rename_i l1 h1
                      simp only [Option.some.injEq, Prod.mk.injEq] at h
                      obtain ⟨rfl, rfl⟩ := h
                      rcases b1 with ⟨b1, _⟩ | ⟨n1, k1, b1, b1'⟩
                      · simp at b1
                      · rcases b2 with ⟨b2, _⟩ | ⟨n2, k2, b2, b2'⟩
                        · simp at b2
                        · rcases b3 with ⟨b3, _⟩ | ⟨n3, k3, b3, b3'⟩
                          · simp at b3
                          · simp only [Option.some.injEq] at b1 b2 b3
                            subst b1 b2 b3
                            have hx := hA.opnd hv
                            simp only [AR, LR, hH] at hx
                            have hx' := hx.2.2 (Nat.eq_of_beq_eq_true hc.1)
                            simp only [HdR] at hx'
                            obtain ⟨hm, ha⟩ := hA.mr.arr hH
                            obtain ⟨ad, c, g1, g2⟩ : ∃ a c, μ id = .slice a xs.length c ∧ xs.length ≤ c := by
                              rcases ha with ⟨rfl, a, ha⟩ | ⟨b, c, arr, ty, g1, g2, _⟩
                              · exact ⟨a, 0, ha, by simp⟩
                              · exact ⟨_, c, g1, g2⟩
                            obtain ⟨ti, ej, f1, f2, f3, f4, f5⟩ := elemIs_under hT hc.2
                            obtain ⟨q1, q2, q3, q4⟩ := hφ
                            have hb3 : (Instr.sliceBounds true xs.length c (some (.int k1 l1)) (some (.int k2 h1)) (some (.int k3 m0))).run P w = .ok (l1.toNat, h1.toNat, m0.toNat) w := by
                              have s3 : ∀ cd, (Instr.sliceBound (.int k3 m0) c cd).run P w = .ok m0.toNat w := fun cd => bound_run cd (by omega) (by omega) w
                              have s2 : ∀ cd, (Instr.sliceBound (.int k2 h1) m0.toNat cd).run P w = .ok h1.toNat w := fun cd => bound_run cd (by omega) (by omega) w
                              have s1 : ∀ cd, (Instr.sliceBound (.int k1 l1) h1.toNat cd).run P w = .ok l1.toNat w := fun cd => bound_run cd (by omega) (by omega) w
                              unfold Instr.sliceBounds
                              simp [s1, s2, s3]
                            have hrun : (Instr.sliceAt t (.slice ad xs.length c) (some (.int k1 l1)) (some (.int k2 h1)) (some (.int k3 m0))).run P w = .ok (.slice (if m0.toNat = l1.toNat then ad else ad.map (·.add (l1.toNat * ej.ty.lv))) (h1.toNat - l1.toNat) (m0.toNat - l1.toNat)) w := by
                              simp only [Instr.sliceAt, Sem.run_bind, run_underlying f3, Result.andThen_ok, Instr.slice, hb3, hT.size f4, Sem.run_pure]
                            refine ⟨_, ?_, show Value.oneCell' (.slice (if m0.toNat = l1.toNat then ad else ad.map (·.add (l1.toNat * ej.ty.lv))) (h1.toNat - l1.toNat) (m0.toNat - l1.toNat)) = true from rfl⟩
                            simp [execOp, ho, b1', b2', b3', hx', g1, hrun]
                    · simp at h
                · simp at h
              · simp at h
            | true =>
              rw [hs] at h
              simp only [cond_true, Option.some.injEq, Prod.mk.injEq] at h
              obtain ⟨rfl, rfl⟩ := h
              obtain ⟨rfl, rfl, rfl⟩ := hφ
              have hu := (hT t _ hti).under
              simp only at hu
              obtain ⟨hu, ej, hj, _⟩ := hu
              rcases b1 with ⟨_, b1⟩ | ⟨_, _, b1, _⟩
              · rcases b2 with ⟨b2, _⟩ | ⟨n2, k2, b2, b2'⟩
                · simp at b2
                · rcases b3 with ⟨b3, _⟩ | ⟨n3, k3, b3, b3'⟩
                  · simp at b3
                  · simp only [Option.some.injEq] at b2 b3
                    subst b2 b3
                    have hx := hA.opnd hv
                    have hy : ∃ ad len cap, a.eval x = .slice ad len cap := by
                      unfold isSlice at hs
                      split at hs
                      · obtain ⟨v0, hv0, hr⟩ := hx
                        simp only [at0, if_true, Option.some.injEq] at hv0
                        subst hv0
                        rcases hr with ⟨_, ⟨_, ad, c, hr⟩ | ⟨b, o, c, hr, _⟩⟩ | ⟨hr, _⟩
                        · exact ⟨_, _, _, hr⟩
                        · exact ⟨_, _, _, hr⟩
                        · exact absurd rfl hr
                      · obtain ⟨ad, hr⟩ := hx
                        exact ⟨_, _, _, hr⟩
                      · simp at hs
                    obtain ⟨ad, len, cap, hy⟩ := hy
                    refine ⟨.slice ad 0 0, ?_, ad, rfl⟩
                    simp [execOp, ho, b1, b2', b3', hy, Instr.sliceAt, run_underlying hu, Instr.slice, Instr.sliceBounds, Instr.sliceBound, asIntOf, hT.size hj]
              · simp at b1
          · simp at h
      · simp at h
    · simp at h
  · rename_i op t x y yt ho
    split at h
    · rename_i v' u' hv hu
      obtain ⟨h0, z, h1, h2⟩ := bin_run hT h hφ w E μ s.H (hA.opnd hv) (hA.opnd hu)
      refine ⟨z, ?_, h2⟩
      simp [execOp, ho, eqGuard_run h0, h1]
    · simp at h
  · rename_i op t x ho
    split at h
    · rename_i v' hv
      have hx := hA.opnd hv
      unfold un at h
      split at h
      · simp only [Option.some.injEq, Prod.mk.injEq] at h
        obtain ⟨rfl, rfl⟩ := h
        simp only [AR, LR_bool] at hx
        exact ⟨_, by simp [execOp, ho, hx, Op.unary], AR_bool _⟩
      · simp only [Option.some.injEq, Prod.mk.injEq] at h
        obtain ⟨rfl, rfl⟩ := h
        simp only [AR, LR_int] at hx
        exact ⟨_, by simp only [execOp, ho, hx, Op.unary, Op.intArith]; rfl, AR_int _ _⟩
      · simp at h
    · simp at h
  · rename_i t u x ho
    split at h
    · rename_i v' hv
      have hx := hA.opnd hv
      unfold conv at h
      split at h
      · split at h
        · rename_i h1 h2
          simp only [Option.some.injEq, Prod.mk.injEq] at h
          obtain ⟨rfl, rfl⟩ := h
          simp only [AR, LR_int] at hx
          have u1 := (hT _ _ h1).under
          have u2 := (hT _ _ h2).under
          simp only at u1 u2
          exact ⟨_, by simp only [execOp, ho, hx, convert, Sem.run_bind, run_underlying u1, run_underlying u2, Result.andThen_ok, Conv.intToInt]; rfl, AR_int _ _⟩
        · simp at h
      · simp at h
    · simp at h
  · rename_i x i ho
    split at h
    · rename_i v' hv
      have hx := hA.opnd hv
      unfold nth at h
      split at h
      · rename_i l
        simp only [Option.map_eq_some_iff, Prod.mk.injEq] at h
        obtain ⟨x', h1, rfl, rfl⟩ := h
        obtain ⟨arr, h2, h3⟩ := hx
        obtain ⟨y, h4, h5⟩ := h3.get i x' h1
        refine ⟨y, ?_, svAV_AR h5⟩
        have h4' : arr[i]? = some y := by simpa using h4
        simp [execOp, ho, h2, Instr.extract, h4']
      · simp at h
    · simp at h
  · rename_i x ho
    split at h
    · rename_i v' hv
      have hx := hA.opnd hv
      have hp : (∃ ad, a.eval x = .pointer (some ad)) ∧ AR w E μ s.H v (a.eval x) ∧ True := by
        unfold nilc at h
        split at h
        · rename_i id ver i j
          cases hf : fresh s.H id ver with
          | false => rw [hf] at h; simp at h
          | true =>
            rw [hf] at h
            simp only [cond_true, Option.some.injEq, Prod.mk.injEq] at h
            obtain ⟨rfl, rfl⟩ := h
            refine ⟨?_, hx, trivial⟩
            unfold fresh at hf
            simp only [AR, LR] at hx
            replace hx := hx.2
            split at hf
            · rename_i l tid hH
              rw [hH] at hx
              obtain ⟨b, _, h1⟩ := hx
              exact ⟨_, h1⟩
            · rename_i cur t' xs m hH
              rw [hH] at hx
              obtain ⟨b, n, c, _, h1⟩ := hx.2 (Nat.eq_of_beq_eq_true hf)
              exact ⟨_, h1⟩
            · simp at hf
        · simp only [Option.some.injEq, Prod.mk.injEq] at h
          obtain ⟨rfl, rfl⟩ := h
          obtain ⟨b, o, h1, _⟩ := id hx
          exact ⟨⟨_, h1⟩, hx, trivial⟩
        · simp at h
      obtain ⟨⟨ad, h1⟩, h2, _⟩ := hp
      exact ⟨a.eval x, by simp [execOp, ho, h1], h2⟩
    · simp at h
  · rename_i f first l ho
    split at h
    · rename_i r hf hr
      simp only [Option.some.injEq, Prod.mk.injEq] at h
      obtain ⟨rfl, rfl⟩ := h
      have : first = #[] := by simpa using hf
      subst this
      refine ⟨.func (.func f) #[] (l.map a.eval), by simp [execOp, ho, Instr.makeFunc], l.map a.eval, rfl, ?_⟩
      simpa using caps_SR hA hr
    · simp at h
  · rename_i c ho
    unfold evCall at h
    split at h
    · rename_i b hb
      split at h
      · rename_i x hx
        split at h
        · split at h
          · rename_i v' t hv ht
            have hargs : c.args = #[x] := by rw [← Array.toArray_toList (xs := c.args), hx]
            obtain ⟨z, h1, h2⟩ := evLen_run hT hA.mr h (hA.opnd hv) c.argTypes ht o.type
            refine ⟨z, ?_, h2⟩
            simp [execOp, ho, resolve, hb, invoke, builtin, hargs, h1]
          · simp at h
        · simp at h
      · rename_i x y hx
        split at h
        · rename_i v' u' hv hu
          have hargs : c.args = #[x, y] := by rw [← Array.toArray_toList (xs := c.args), hx]
          have h1 := hA.opnd hv
          have h2 := hA.opnd hu
          unfold mnx at h
          split at h
          · rename_i k p k' q
            simp only [AR, LR_int] at h1 h2
            cases hk : decide (k = k') with
            | false => rw [hk] at h; simp at h
            | true =>
              rw [hk] at h
              simp only [cond_true] at h
              split at h
              · simp only [Option.some.injEq, Prod.mk.injEq] at h
                obtain ⟨rfl, rfl⟩ := h
                refine ⟨_, ?_, AR_int _ _⟩
                simp [execOp, ho, resolve, hb, invoke, builtin, hargs, h1, h2, Builtin.min_, Builtin.min2]
              · simp only [Option.some.injEq, Prod.mk.injEq] at h
                obtain ⟨rfl, rfl⟩ := h
                refine ⟨_, ?_, AR_int _ _⟩
                simp [execOp, ho, resolve, hb, invoke, builtin, hargs, h1, h2, Builtin.max_, Builtin.max2]
              · simp at h
          · simp at h
        · simp at h
      · simp at h
    · simp at h
  · simp at h
end
end Go.Proofs.Ytgpddckjpokclaa.Vc
