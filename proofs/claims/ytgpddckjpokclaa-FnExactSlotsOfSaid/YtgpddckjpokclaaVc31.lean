/- A calculus of values over the model, part 31: rows that take slices of ours along. It speaks of any program. -/
import Derived.Test.YtgpddckjpokclaaVc30
namespace Go.Proofs.Ytgpddckjpokclaa.Vc
open Go Go.RowKit
set_option linter.unusedVariables false
set_option linter.unusedSimpArgs false

/-- A slice in a row of ours: nil, or a slice of ours that the row takes along. -/
def slA (H : Heap) (t : Ty) : Lf → Option (List t.den)
  | .hd k ver none => match H[k]? with
    | some (some (.arr cur t' ys m)) => cond (Nat.beq ver cur && decide (m = .dp)) (castL t' t ys) none
    | _ => none
  | .nil => some []
  | _ => none

def ofLfsA (H : Heap) : (t : Ty) → List Lf → Option (t.den × List Lf)
  | .int k, l :: r => (setInt k 0 l).map fun x => (x, r)
  | .bool, l :: r => (setBool 0 l).map fun x => (x, r)
  | .str, l :: r => (setStr 0 l).map fun x => (x, r)
  | .sl t, l :: r => (slA H t l).map fun x => (x, r)
  | .pair a b, l => match ofLfsA H a l with
    | some (x, r) => match ofLfsA H b r with
      | some (y, r') => some ((x, y), r')
      | none => none
    | none => none
  | _, [] => none

/-- The slices of ours in a row of cells, and where. -/
def hdsOf : Nat → List Lf → List (Nat × Nat)
  | _, [] => []
  | j, .hd k _ none :: l => (k, j) :: hdsOf (j + 1) l
  | j, _ :: l => hdsOf (j + 1) l

def lookN : List (Nat × Nat) → Nat → Option Nat
  | [], _ => none
  | (k, j) :: l, i => cond (Nat.beq k i) (some j) (lookN l i)

def isAt : Option Nat → Nat → Bool
  | some j, i => Nat.beq j i
  | none, _ => false

def hdsOk (π : List (Nat × Nat)) : Nat → List Lf → Bool
  | _, [] => true
  | j, .hd k _ none :: l => isAt (lookN π k) j && hdsOk π (j + 1) l
  | j, _ :: l => hdsOk π (j + 1) l

def clrH : Heap → List (Nat × Nat) → Heap
  | H, [] => H
  | H, (k, _) :: l => clrH (H.set k none) l

def attE (E : Env) (id : Nat) (p : Nat → Pos) (π : List (Nat × Nat)) : Env := ⟨E.S, fun c => match E.κ c with
  | some (.id k, q) => match lookN π k with
    | some j => some (.id id, if q = .top then p j else q)
    | none => some (.id k, q)
  | o => o⟩

def noneB : Option Nat → Bool
  | none => true
  | _ => false

def evStoreA (T : Tab) (s : St) (o : Oper) : Option (Prop × Heap) :=
  match o.guard, o.dst, o.op with
  | none, none, .store t ad x => match T t, opnd s.sl ad, opnd s.sl x with
    | some ti, some (.lf (.ptr id ver i 0)), some v => match cellsOf v with
      | some cs => match s.H[id]? with
        | some (some (.arr cur t' xs m)) => cond (Nat.beq ver cur && decide (m = .dp) && Nat.beq cs.length ti.ty.lv && Nat.beq cs.length t'.lv && hdsOk (hdsOf 0 cs) 0 cs && noneB (lookN (hdsOf 0 cs) id)) (match ofLfsA s.H t' cs with
          | some (y, _) => some (i < xs.length, (clrH s.H (hdsOf 0 cs)).set id (some (.arr cur t' (xs.set i y) m)))
          | none => none) none
        | _ => none
      | none => none
    | _, _, _ => none
  | _, _, _ => none

section
variable {P : Program} {T : Tab} {n : Nat} {w0 : World} {E0 : Env0} {s s' s'' : St} {ops : Array Oper} {Q : Exit → St → Prop} {rest : List Oper}
variable {w w' : World} {E E' : Env} {μ μ' : Nat → Value} {H H' : Heap}

theorem hdsOk_at {π : List (Nat × Nat)} : ∀ {l : List Lf} {o : Nat}, hdsOk π o l = true → ∀ (j k ver : Nat), l[j]? = some (.hd k ver none) → lookN π k = some (o + j)
  | [], _, _, j, k, ver, h => by simp at h
  | a :: l, o, hok, j, k, ver, h => by
    have rest : hdsOk π (o + 1) l = true → ∀ j', l[j']? = some (.hd k ver none) → lookN π k = some (o + (j' + 1)) := fun hr j' hj' => by
      have := hdsOk_at hr j' k ver hj'
      rw [this]
      congr 1
      omega
    cases j with
    | zero =>
      simp only [List.getElem?_cons_zero, Option.some.injEq] at h
      subst h
      simp only [hdsOk, Bool.and_eq_true] at hok
      unfold isAt at hok
      cases hl : lookN π k with
      | none => rw [hl] at hok; simp at hok
      | some j' =>
        rw [hl] at hok
        have := Nat.eq_of_beq_eq_true hok.1
        rw [this]
        rfl
    | succ j =>
      simp only [List.getElem?_cons_succ] at h
      cases a with
      | hd k2 v2 r2 =>
        cases r2 with
        | none =>
          simp only [hdsOk, Bool.and_eq_true] at hok
          exact rest hok.2 j h
        | some r2 => exact rest hok j h
      | _ => exact rest hok j h

theorem clrH_length : ∀ (H : Heap) (π : List (Nat × Nat)), (clrH H π).length = H.length
  | H, [] => rfl
  | H, (k, _) :: l => by rw [clrH, clrH_length]; simp

theorem clrH_at : ∀ (π : List (Nat × Nat)) (H : Heap) (i : Nat), (lookN π i = none ∧ (clrH H π)[i]? = H[i]?) ∨ (lookN π i ≠ none ∧ (i < H.length → (clrH H π)[i]? = some none))
  | [], H, i => .inl ⟨rfl, rfl⟩
  | (k, j) :: l, H, i => by
    have ih := clrH_at l (H.set k none) i
    simp only [lookN, clrH]
    by_cases hk : k = i
    · subst hk
      refine .inr ⟨by simp, fun hlt => ?_⟩
      rcases ih with ⟨_, h⟩ | ⟨_, h⟩
      · rw [h, List.getElem?_set_self hlt]
      · exact h (by simpa using hlt)
    · have hb : Nat.beq k i = false := by cases h : Nat.beq k i; rfl; exact absurd (Nat.eq_of_beq_eq_true h) hk
      rw [hb, cond_false]
      rcases ih with ⟨h1, h⟩ | ⟨h1, h⟩
      · exact .inl ⟨h1, by rw [h, List.getElem?_set_ne hk]⟩
      · exact .inr ⟨h1, fun hlt => h (by simpa using hlt)⟩

/-- A row of cells that takes slices of ours along. -/
theorem ofLfsA_rep (hM : MR w E μ H 0) {r : Root} : ∀ {t : Ty} {l : List Lf} {x : t.den} {l' : List Lf} {ys : List Value} {p : Nat → Pos}, ofLfsA H t l = some (x, l') → All2 (LR w E μ H) l ys →
    (∀ b, E.S b → E'.S b ∧ w'.heap[b]? = w.heap[b]?) → (∀ j k ver, j < t.lv → l[j]? = some (.hd k ver none) → ∀ b q, E.κ b = some (.id k, q) → E'.κ b = some (r, if q = .top then p j else q) ∧ w'.heap[b]? = w.heap[b]?) →
    Rep w' E' r t x .dp p (fun j => ys[j]?) ∧ All2 (LR w E μ H) l' (ys.drop t.lv) ∧ l' = l.drop t.lv ∧ t.lv ≤ ys.length
  | .int k, a :: l, x, l', y :: ys, p, h, .cons h1 h2, hS, hk => by
    have h0 : ofLfs .dp (.int k) (a :: l) = some (x, l') := by simpa only [ofLfs, ofLfsA] using h
    obtain ⟨a1, a2, a3⟩ := ofLfs_rep (r := r) (p := p) h0 (.cons h1 h2)
    simp only [ofLfsA, Option.map_eq_some_iff, Prod.mk.injEq] at h
    obtain ⟨_, _, _, rfl⟩ := h
    exact ⟨a1, a2, rfl, a3⟩
  | .bool, a :: l, x, l', y :: ys, p, h, .cons h1 h2, hS, hk => by
    have h0 : ofLfs .dp (.bool) (a :: l) = some (x, l') := by simpa only [ofLfs, ofLfsA] using h
    obtain ⟨a1, a2, a3⟩ := ofLfs_rep (r := r) (p := p) h0 (.cons h1 h2)
    simp only [ofLfsA, Option.map_eq_some_iff, Prod.mk.injEq] at h
    obtain ⟨_, _, _, rfl⟩ := h
    exact ⟨a1, a2, rfl, a3⟩
  | .str, a :: l, x, l', y :: ys, p, h, .cons h1 h2, hS, hk => by
    have h0 : ofLfs .dp (.str) (a :: l) = some (x, l') := by simpa only [ofLfs, ofLfsA] using h
    obtain ⟨a1, a2, a3⟩ := ofLfs_rep (r := r) (p := p) h0 (.cons h1 h2)
    simp only [ofLfsA, Option.map_eq_some_iff, Prod.mk.injEq] at h
    obtain ⟨_, _, _, rfl⟩ := h
    exact ⟨a1, a2, rfl, a3⟩
  | .sl t, a :: l, x, l', y :: ys, p, h, .cons h1 h2, hS, hk => by
    simp only [ofLfsA, Option.map_eq_some_iff, Prod.mk.injEq] at h
    obtain ⟨z, hz, rfl, rfl⟩ := h
    refine ⟨?_, by simpa [Ty.lv] using h2, rfl, by simp [Ty.lv]⟩
    unfold slA at hz
    split at hz
    · rename_i k ver
      have hk0 := hk 0 k ver (by simp [Ty.lv]) rfl
      simp only [LR] at h1
      split at hz
      · rename_i cur t' zs m hH
        cases hb : (Nat.beq ver cur && decide (m = .dp)) with
        | false => rw [hb] at hz; simp at hz
        | true =>
          rw [hb] at hz
          simp only [cond_true] at hz
          obtain ⟨he, rfl⟩ := castL_eq hz
          subst he
          simp only [Bool.and_eq_true, decide_eq_true_eq] at hb
          obtain ⟨hv, rfl⟩ := hb
          rw [hH] at h1
          have hy : y = μ k := h1.2.2 (Nat.eq_of_beq_eq_true hv)
          obtain ⟨_, hN⟩ := hM.blks k _ hH
          refine Rep.pcongr (.sl t') _ .dp (fun _ => p 0) p _ (fun q hq => by
            have : q = 0 := by simp [Ty.lv] at hq; omega
            subst this; rfl) ?_
          refine Rep.move (E := E) (E' := E') (fun _ => True) (fun q => if q = .top then p 0 else q) hS (fun b q _ hq => ⟨(hk0 b q hq).1, (hk0 b q hq).2, fun _ => ⟨trivial, by simp⟩⟩) (.sl t') zs .dp (fun _ => .top) (fun _ => p 0) (at0 (μ k)) _ (fun _ => ⟨fun _ => trivial, fun _ => (if_pos rfl).symm⟩) (fun q v hq hv => ?_) hN
          have : q = 0 := by simp [Ty.lv] at hq; omega
          subst this
          simp only [at0, if_true, Option.some.injEq] at hv
          rw [← hv, ← hy]
          rfl
      · simp at hz
    · simp only [Option.some.injEq] at hz
      subst hz
      obtain ⟨ad, rfl⟩ := h1
      exact ⟨_, rfl, .inr ⟨by simp, .inl ⟨rfl, ad, rfl⟩⟩⟩
    · simp at hz
  | .pair t u, l, x, l', ys, p, h, hl, hS, hk => by
    simp only [ofLfsA] at h
    split at h
    · rename_i z r1 e1
      split at h
      · rename_i z2 r2 e2
        simp only [Option.some.injEq, Prod.mk.injEq] at h
        obtain ⟨rfl, rfl⟩ := h
        obtain ⟨a1, a2, a3, a4⟩ := ofLfsA_rep hM (r := r) (p := p) e1 hl hS (fun j k ver hj => hk j k ver (by simp only [Ty.lv]; omega))
        obtain ⟨b1, b2, b3, b4⟩ := ofLfsA_rep hM (r := r) (p := fun i => p (i + t.lv)) e2 a2 hS (fun j k ver hj hlk => by
          rw [a3, List.getElem?_drop] at hlk
          have := hk (t.lv + j) k ver (by simp only [Ty.lv]; omega) hlk
          rw [Nat.add_comm] at this
          exact this)
        refine ⟨⟨a1, ?_⟩, by simpa [Ty.lv, Nat.add_comm] using b2, by rw [b3, a3]; simp [Ty.lv], by simp [Ty.lv] at b4 ⊢; omega⟩
        have e : (fun i => (fun j => ys[j]?) (i + t.lv)) = fun j => (ys.drop t.lv)[j]? := by
          funext i
          simp [Nat.add_comm]
        rw [e]
        exact b1
      · simp at h
    · simp at h
  | .int _, [], _, _, _, _, h, _, _, _ => by simp [ofLfsA] at h
  | .bool, [], _, _, _, _, h, _, _, _ => by simp [ofLfsA] at h
  | .str, [], _, _, _, _, h, _, _, _ => by simp [ofLfsA] at h
  | .sl _, [], _, _, _, _, h, _, _, _ => by simp [ofLfsA] at h

theorem VO.storeA {o : Oper} {φ : Prop} {H' : Heap} (hT : TabOk P T) (h : evStoreA T s o = some (φ, H')) (hφ : φ) (k : VO P n w0 E0 ops Q rest ⟨s.sl, H'⟩) : VO P n w0 E0 ops Q (o :: rest) s := by
  intro a w hs
  obtain ⟨E, μ, hA⟩ := hs.at
  unfold evStoreA at h
  split at h
  · rename_i t ad x hg hd ho
    split at h
    · rename_i ti id ver i v hi had hx
      split at h
      · rename_i cs hcs
        split at h
        · rename_i cur t' xs m hH
          cases hb : (Nat.beq ver cur && decide (m = .dp) && Nat.beq cs.length ti.ty.lv && Nat.beq cs.length t'.lv && hdsOk (hdsOf 0 cs) 0 cs && noneB (lookN (hdsOf 0 cs) id)) with
          | false => rw [hb] at h; simp at h
          | true =>
            rw [hb] at h
            simp only [cond_true] at h
            simp only [Bool.and_eq_true, decide_eq_true_eq] at hb
            obtain ⟨⟨⟨⟨⟨hv, rfl⟩, hl1⟩, hl2⟩, hok⟩, hid0⟩ := hb
            have hv := Nat.eq_of_beq_eq_true hv
            subst hv
            have hl1 := Nat.eq_of_beq_eq_true hl1
            have hl2 := Nat.eq_of_beq_eq_true hl2
            generalize hπ : hdsOf 0 cs = π at h hok hid0
            have hid : lookN π id = none := by
              cases hl : lookN π id with
              | none => rfl
              | some j => rw [hl] at hid0; simp [noneB] at hid0
            split at h
            · rename_i y rst hof
              simp only [Option.some.injEq, Prod.mk.injEq] at h
              obtain ⟨rfl, rfl⟩ := h
              have hidlt : id < s.H.length := (List.getElem?_eq_some_iff.1 hH).1
              have hy := cellsOf_run hcs (hA.opnd hx)
              have hsz : (a.eval x).cells.size = ti.ty.lv := by rw [← hl1, hy.length, Array.length_toList]
              have hp := (hA.opnd had).2
              rw [hH] at hp
              obtain ⟨b, nn, cc, h1, h2⟩ := hp.2 rfl
              obtain ⟨hm, f0⟩ := hA.mr.arr hH
              rcases f0 with ⟨rfl, _⟩ | ⟨b', c, arr, ty, f1, f2, f3, f4, f5, f6⟩
              · simp at hφ
              rw [h1] at f1
              simp only [Value.slice.injEq, Option.some.injEq, Addr.mk.injEq, and_true] at f1
              obtain ⟨rfl, rfl, rfl⟩ := f1
              have hmul : (i + 1) * t'.lv ≤ cc * t'.lv := Nat.mul_le_mul_right _ (by omega)
              have hmul' : (i + 1) * t'.lv = i * t'.lv + t'.lv := by rw [Nat.add_mul, Nat.one_mul]
              have e : (a.eval x).cells.size = cs.length := by rw [hsz, hl1]
              have elen : (a.eval x).cells.toList.length = t'.lv := by rw [Array.length_toList, e, hl2]
              simp only [Nat.add_zero] at h2
              generalize hnew : (arr.toList.take (i * t'.lv) ++ (a.eval x).cells.toList ++ arr.toList.drop (i * t'.lv + (a.eval x).cells.size)).toArray = arr'
              refine wpList_skip (w' := w.setRow b arr') hg ?_ ?_
              · simp only [execOp, ho, Instr.storeAt, h2, Instr.sureAddr, Sem.run_bind, Sem.run_pure, Result.andThen_ok]
                rw [storeVar_run hT hi f3 hsz (by rw [e, hl2, f4]; omega) hy.all_one, hnew]
                rfl
              rw [hd]
              have hother := fun c (hc : c ≠ b) => setRow_other w b c arr' hc
              have hthis := setRow_this w b arr arr' ty _ f3
              have hSb : ∀ c, E.S c → c ≠ b := fun c hc e => by subst e; have := hA.mr.apart c hc; rw [f5] at this; simp at this
              let E' := attE E id (fun j => .inside b (i * t'.lv + j)) π
              have hS : ∀ c, E.S c → E'.S c ∧ (w.setRow b arr').heap[c]? = w.heap[c]? := fun c hc => ⟨hc, hother c (hSb c hc)⟩
              have hκn : ∀ c, E.κ c = none → E'.κ c = none := fun c hc => by simp only [E', attE, hc]
              have hκn2 : ∀ c, E'.κ c ≠ none → E.κ c ≠ none := fun c hc hn => hc (hκn c hn)
              have hκs : ∀ c k q, E.κ c = some (.id k, q) → lookN π k = none → E'.κ c = some (.id k, q) := fun c k q hc hk => by simp only [E', attE, hc, hk]
              have hκm : ∀ c k q j, E.κ c = some (.id k, q) → lookN π k = some j → E'.κ c = some (.id id, if q = .top then .inside b (i * t'.lv + j) else q) := fun c k q j hc hk => by simp only [E', attE, hc, hk]
              have hκb : ∀ c k q, E.κ c = some (.id k, q) → (k ≠ id ∨ q ≠ .top) → c ≠ b := by
                intro c k q hc hkq e
                subst e
                rw [f5] at hc
                simp only [Option.some.injEq, Prod.mk.injEq, Root.id.injEq] at hc
                rcases hkq with h | h
                · exact h hc.1.symm
                · exact h hc.2.symm
              have hcell : ∀ q, cellAt (w.setRow b arr') b q = if i * t'.lv ≤ q ∧ q < i * t'.lv + t'.lv then (a.eval x).cells.toList[q - i * t'.lv]? else cellAt w b q := by
                intro q
                have ha : arr.size = cc * t'.lv := f4
                simp only [cellAt, World.cell?, hthis, f3, Option.isSome_none, Bool.false_eq_true, if_false]
                rw [← hnew]
                simp only [List.getElem?_toArray, List.append_assoc, List.getElem?_append, List.length_take, Array.length_toList, List.length_append]
                rw [Nat.min_eq_left (by omega)]
                have elen' : (a.eval x).cells.size = t'.lv := by rw [e, hl2]
                by_cases q1 : q < i * t'.lv
                · rw [if_pos q1, if_neg (by omega), List.getElem?_take, if_pos q1]; simp
                · rw [if_neg q1]
                  by_cases q2 : q - i * t'.lv < (a.eval x).cells.size
                  · rw [if_pos q2, if_pos (by omega)]
                  · rw [if_neg q2, if_neg (by omega), List.getElem?_drop]
                    simp only [Array.getElem?_toList]
                    congr 1
                    omega
              have hK : KpH μ μ s.H ((clrH s.H π).set id (some (.arr ver t' (xs.set i y) .dp))) := by
                intro q c hc
                have hql : q < s.H.length := (List.getElem?_eq_some_iff.1 hc).1
                by_cases hq : q = id
                · subst hq
                  rw [hH] at hc
                  simp only [Option.some.injEq] at hc
                  subst hc
                  exact ⟨_, List.getElem?_set_self (by rw [clrH_length]; exact hql), .inr ⟨rfl, rfl, by simp, rfl⟩⟩
                · rw [List.getElem?_set_ne (Ne.symm hq)]
                  rcases clrH_at π s.H q with ⟨_, h⟩ | ⟨_, h⟩
                  · exact ⟨c, by rw [h]; exact hc, Kp.refl _ _⟩
                  · exact ⟨none, h hql, trivial⟩
              obtain ⟨g1, _, _, _⟩ := ofLfsA_rep (w' := w.setRow b arr') (E' := E') hA.mr (r := .id id) (p := fun j => .inside b (i * t'.lv + j)) hof hy hS (fun j k ver hj hlk c q hc => by
                have := hdsOk_at hok j k ver hlk
                rw [Nat.zero_add] at this
                refine ⟨hκm c k q j hc this, hother c (hκb c k q hc (.inl fun e => ?_))⟩
                subst e
                rw [hid] at this
                simp at this)
              have hM : MR (w.setRow b arr') E' μ ((clrH s.H π).set id (some (.arr ver t' (xs.set i y) .dp))) 0 := by
                refine MR.step hA.mr (fun c hc => hκn c (hA.mr.apart c hc)) (fun c hc => by simpa using hA.mr.ltS c hc) (fun c hc => by simpa using hA.mr.ltκ c (hκn2 c hc)) (fun c r q hc => ?_) hS hK (fun q blk hq => ?_)
                · simp only [E', attE] at hc
                  split at hc
                  · rename_i k q0 hk
                    split at hc
                    · simp only [Option.some.injEq, Prod.mk.injEq] at hc
                      exact .inl ⟨id, hc.1.symm, by simpa [clrH_length] using hidlt⟩
                    · simp only [Option.some.injEq, Prod.mk.injEq] at hc
                      have := hA.mr.roots c _ _ hk
                      rw [← hc.1]
                      simpa [clrH_length] using this
                  · have := hA.mr.roots c _ _ hc
                    simpa [clrH_length] using this
                · by_cases hqi : q = id
                  · subst hqi
                    rw [List.getElem?_set_self (by rw [clrH_length]; exact hidlt)] at hq
                    simp only [Option.some.injEq] at hq
                    subst hq
                    refine .inr ⟨by simp, _, rfl, .inr ⟨by simp, .inr ⟨b, cc, arr', ty, by simpa [at0] using h1, by simpa using f2, hthis, ?_, hκs b _ _ f5 hid, fun i2 hi2 => ?_⟩⟩⟩
                    · have ha : arr.size = cc * t'.lv := f4
                      rw [← hnew]
                      simp only [List.size_toArray, List.length_append, List.length_take, List.length_drop, Array.length_toList]
                      omega
                    · have hil : i2 < xs.length := by simpa using hi2
                      by_cases hii : i2 = i
                      · subst hii
                        simp only [List.getElem_set_self]
                        refine Rep.move (E := E') (E' := E') (fun _ => True) (fun q => q) (fun c hc => ⟨hc, rfl⟩) (fun c q _ hq => ⟨hq, rfl, fun k => ⟨trivial, rfl⟩⟩) t' y .dp _ _ _ _ (fun _ => ⟨fun _ => trivial, fun _ => rfl⟩) (fun q v hq hv => ?_) g1
                        rw [hcell, if_pos (by omega), show i2 * t'.lv + q - i2 * t'.lv = q by omega]
                        exact hv
                      · simp only [List.getElem_set_ne (Ne.symm hii)]
                        refine Rep.move (E := E) (E' := E') (fun q => ∃ b k, q = Pos.inside b k) (fun q => q) hS (fun c q hq hc => ?_) t' _ .dp _ _ _ _ (fun _ => ⟨fun q => ⟨_, _, rfl⟩, fun _ => rfl⟩) (fun q v hq hv => ?_) (f6 i2 hil)
                        · obtain ⟨b1, k1, rfl⟩ := hq
                          exact ⟨hκs c _ _ hc hid, hother c (hκb c _ _ hc (.inr (by simp))), fun k => ⟨⟨_, _, rfl⟩, rfl⟩⟩
                        · rw [hcell, if_neg]
                          · exact hv
                          · rcases Nat.lt_or_ge i2 i with hlt | hge
                            · have : (i2 + 1) * t'.lv ≤ i * t'.lv := Nat.mul_le_mul_right _ hlt
                              rw [Nat.add_mul, Nat.one_mul] at this
                              omega
                            · have : (i + 1) * t'.lv ≤ i2 * t'.lv := Nat.mul_le_mul_right _ (by omega)
                              omega
                  · rw [List.getElem?_set_ne (Ne.symm hqi)] at hq
                    rcases clrH_at π s.H q with ⟨hl, h⟩ | ⟨_, h⟩
                    · rw [h] at hq
                      exact .inl ⟨hq, rfl, fun c p hc => ⟨hκs c _ _ hc hl, hother c (hκb c _ _ hc (.inl hqi))⟩⟩
                    · have hql := (List.getElem?_eq_some_iff.1 hq).1
                      rw [clrH_length] at hql
                      rw [h hql] at hq
                      simp at hq
              exact k _ _ (hA.unput hM ⟨rfl, rfl, rfl, by simp, fun c hc hn => hother c (fun e => by subst e; rw [f5] at hn; simp at hn), fun c hc => hc, fun c hc => .inl hc, fun c hc => .inl (hκn2 c hc)⟩ hS hK).rel
            · simp at h
        · simp at h
      · simp at h
    · simp at h
  · simp at h
end
end Go.Proofs.Ytgpddckjpokclaa.Vc
namespace Go.Proofs.Ytgpddckjpokclaa.Vc
theorem set_upd {α : Type} (xs : List α) (i : Nat) (a d : α) (f : α → α) (h : i < xs.length) : (xs.set i a).set i (f ((xs.set i a).getD i d)) = xs.set i (f a) := by
  have h2 : i < (xs.set i a).length := by simpa using h
  have : (xs.set i a).getD i d = a := by
    rw [List.getD_eq_getElem?_getD, List.getElem?_set_self h]
    rfl
  rw [this, List.set_set]
end Go.Proofs.Ytgpddckjpokclaa.Vc
