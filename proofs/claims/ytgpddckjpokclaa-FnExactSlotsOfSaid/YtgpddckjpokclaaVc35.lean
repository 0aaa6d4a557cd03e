/- A calculus of values over the model, part 35: short words for what is said often. It speaks of any program. -/
import Derived.Test.YtgpddckjpokclaaVc34
namespace Go.Proofs.Ytgpddckjpokclaa.Vc
open Go Go.RowKit
set_option linter.unusedVariables false

def Tn : Nat → Prop
  | 0 => True
  | k + 1 => True ∧ Tn k

theorem tn : ∀ k, Tn k
  | 0 => trivial
  | k + 1 => ⟨trivial, tn k⟩

def Tt (p : Prop) : Nat → Prop
  | 0 => p
  | k + 1 => True ∧ Tt p k

theorem pu {p : Prop} : ∀ k, p → Tt p k
  | 0, h => h
  | k + 1, h => ⟨trivial, pu k h⟩

theorem an {p q : Prop} (a : p) (b : q) : p ∧ q := ⟨a, b⟩

section
variable {P : Program} {T : Tab} {n : Nat} {w0 : World} {E0 : Env0} {s : St} {ops : Array Oper} {Q : Exit → St → Prop} {rest : List Oper}

theorem sR (hT : TabOk P T) (keep π : List Nat) (s' : St) {id : Nat} {y : Code} {φ : Prop} (hφ : φ) (k : VW P n w0 E0 y Q s') (h : evk T n ops .dp ops.toList.length ops.toList keep π s = some (φ, s') := by kernel_rfl) :
    VW P n w0 E0 (.seq (.region id ops false) y) Q s := VW.seqRg hT .dp keep π h hφ k

theorem rR (hT : TabOk P T) (keep π : List Nat) (s' : St) {id : Nat} {φ : Prop} (hφ : φ) (k : Q .normal s') (h : evk T n ops .dp ops.toList.length ops.toList keep π s = some (φ, s') := by kernel_rfl) :
    VW P n w0 E0 (.region id ops false) Q s := VW.rg hT .dp keep π h hφ k

theorem sG (hT : TabOk P T) (j : Nat) (keep π : List Nat) (s' : St) {φ : Prop} (hφ : φ) (k : VO P n w0 E0 ops Q (rest.drop j) s') (h : evk T n ops .dp j rest keep π s = some (φ, s') := by kernel_rfl) :
    VO P n w0 E0 ops Q rest s := VO.seg hT .dp j keep π h hφ k

theorem sN (hT : TabOk P T) (keep π : List Nat) (s' : St) {φ : Prop} (hφ : φ) (k : Q .normal s') (h : evk T n ops .dp rest.length rest keep π s = some (φ, s') := by kernel_rfl) :
    VO P n w0 E0 ops Q rest s := VO.seg hT .dp rest.length keep π h hφ (by rw [List.drop_length]; exact VO.nil k)

theorem cnd {c : Operand} {x y : Code} {b : Bool} {α : Type} {u v : Option α} {r : α} (h : cond b u v = some r) (ht : u = some r → VW P n w0 E0 x Q s) (hf : v = some r → VW P n w0 E0 y Q s)
    (hc : opnd s.sl c = some (.lf (.v .bool b)) := by kernel_rfl) : VW P n w0 E0 (.cond c x y) Q s :=
  VW.cond hc (fun hb => ht (cond_t h hb)) (fun hb => hf (cond_f h hb))

theorem spB (d : Nat) {b : Bool} {α : Type} {u v : Option α} {r : α} (h : cond b u v = some r) (h1 : u = some r → VO P n w0 E0 ops Q rest ⟨(d, .lf (.v .bool true)) :: s.sl, s.H⟩) (h2 : v = some r → VO P n w0 E0 ops Q rest ⟨(d, .lf (.v .bool false)) :: s.sl, s.H⟩)
    (hb : look s.sl d = some (.lf (.v .bool b)) := by kernel_rfl) : VO P n w0 E0 ops Q rest s :=
  VO.splitB d hb (fun e => h1 (cond_t h e)) (fun e => h2 (cond_f h e))

theorem rt {rvs : List ResultVar} {ws : List WC} {rs : List RC} (ids : List (Option Nat)) (h : retCs T s ids 0 ws rvs = some rs := by kernel_rfl) (hl : Nat.ble ids.length (cntC rs) = true := by rfl) : retQ T rvs ws rs .ret s := retR ids h hl

theorem arv {R : St → Prop} {s' : St} (l : List G) (h : R s') (e : Vc.ghs l s = s' := by kernel_rfl) : ∃ s', Gh n w0 E0 s s' ∧ R s' := arrive l e h

theorem aro {s' : St} {I : Nat → St → Prop} {k : Nat} (l : List G) (h : I k s') (e : Vc.ghs l s = s' := by kernel_rfl) : ∃ k' s'', k' < k + 1 ∧ Gh n w0 E0 s s'' ∧ I k' s'' := around l e h

theorem lop {s' : St} {c : Code} (I : Nat → St → Prop) (k0 : Nat) (l : List G) (h1 : I k0 s')
    (round : ∀ k s, I k s → VW P n w0 E0 c (thenQ (fun s' => ∃ k' s'', k' < k ∧ Gh n w0 E0 s' s'' ∧ I k' s'') Q) s) (e : ghs l s = s' := by kernel_rfl) : VW P n w0 E0 (.loop c) Q s :=
  VW.loopL I k0 l e h1 round

theorem cal (br : Bool) (tys cts : List PT) {o : Oper} (d : Option Nat) {f : FuncId} {ps : List AV} {rs : List RC} (hT : TabOk P T) (hc : Con P f ps rs)
    (k : VO P n w0 E0 ops Q rest ⟨putA d (resA s.H.length rs) s.sl, s.H ++ ownsC rs⟩) (h : evArgs br tys cts n s o = some (d, f, ps) := by kernel_rfl) (hsel : (cond br (selfish rs) true) = true := by rfl) (ht : Tabs P w0 E0.toEnv := by assumption) : VO P n w0 E0 ops Q (o :: rest) s :=
  VO.call br tys cts hT h hc hsel k
end

/-- How a contract is begun. -/
theorem ctr {P : Program} {T : Tab} (ws : List WC) (hT : TabOk P T) {fn : Func} {f : FuncId} {c : Code} {ps : List AV} {rs : List RC} (hf : P.funcs[f]? = some fn) (hb : fn.body = some c) (h : ∀ w0 E0, Tabs P w0 E0.toEnv → VW P fn.ntmps w0 E0 c (retQ T fn.results.toList ws rs) ⟨argSl 0 ps, []⟩)
    (hn : Nat.ble ps.length fn.ntmps = true := by rfl) (hg : Nat.ble fn.ntmps gb = true := by rfl) (hne : fn.name ≠ "runtime.NumGoroutine" := by decide) : Con P f ps rs :=
  ⟨enters_of hf hb hne, HC.intro ws hT hf hb (Nat.le_of_ble_eq_true hn) (Nat.le_of_ble_eq_true hg) h⟩
end Go.Proofs.Ytgpddckjpokclaa.Vc
