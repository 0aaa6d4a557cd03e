/- A calculus of values over the model, eighth part: new variables, and stores. It speaks of any program. -/
import Derived.Test.YtgpddckjpokclaaVc7
namespace Go.Proofs.Ytgpddckjpokclaa.Vc
open Go Go.RowKit
set_option linter.unusedVariables false
set_option linter.unusedSimpArgs false

section
variable {P : Program} {T : Tab} {n : Nat} {w0 : World} {E0 : Env0} {s : St} {ops : Array Oper} {Q : Exit → St → Prop} {rest : List Oper}
variable {w w' : World} {E E' : Env} {μ μ' : Nat → Value} {H H' : Heap}

theorem NB.keep (hS : ∀ b, E.S b → E'.S b ∧ w'.heap[b]? = w.heap[b]?) (hH : KpH μ μ' H H') {id : Nat} (hκ : ∀ b q, E.κ b = some (.id id, q) → E'.κ b = some (.id id, q) ∧ w'.heap[b]? = w.heap[b]?) (hμ : μ' id = μ id) :
    ∀ {blk : Blk}, NB w E μ H id blk → NB w' E' μ' H' id blk
  | .box l tid, h => by
    obtain ⟨b, arr, h1, h2, h3, h4⟩ := h
    obtain ⟨h5, h6⟩ := hκ b _ h2
    exact ⟨b, arr, hμ.trans h1, h5, h6.trans h3, h4.imp (LR.keep hS hH)⟩
  | .arr ver t xs m, h => by
    refine ⟨h.1, ?_⟩
    rw [hμ]
    exact Rep.move (fun _ => True) (fun q => q) hS (fun b q _ hb => ⟨(hκ b q hb).1, (hκ b q hb).2, fun k => ⟨trivial, rfl⟩⟩) (.sl t) xs m _ _ _ _ (fun _ => ⟨fun _ => trivial, fun _ => rfl⟩) (fun _ _ _ h => h) h.2

/-- The memory has turned: what is told anew, and what is as it was. -/
theorem MR.step {k k' : Nat} (hM : MR w E μ H k) (apart : ∀ b, E'.S b → E'.κ b = none) (ltS : ∀ b, E'.S b → b < w'.heap.size) (ltκ : ∀ b, E'.κ b ≠ none → b < w'.heap.size)
    (roots : ∀ b r q, E'.κ b = some (r, q) → (∃ n, r = .id n ∧ n < H'.length) ∨ ∃ n, r = .res n ∧ n < k')
    (hS : ∀ b, E.S b → E'.S b ∧ w'.heap[b]? = w.heap[b]?) (hH : KpH μ μ' H H')
    (old : ∀ (id : Nat) blk, H'[id]? = some (some blk) → (H[id]? = some (some blk) ∧ μ' id = μ id ∧ ∀ b q, E.κ b = some (.id id, q) → E'.κ b = some (.id id, q) ∧ w'.heap[b]? = w.heap[b]?) ∨ NB w' E' μ' H' id blk) :
    MR w' E' μ' H' k' where
  apart := apart
  ltS := ltS
  ltκ := ltκ
  roots := roots
  blks := fun id blk h => by
    rcases old id blk h with ⟨h1, h2, h3⟩ | h1
    · exact NB.keep hS hH h3 h2 (hM.blks id blk h1)
    · exact h1

/-! ### a new block of ours -/
def putμ (μ : Nat → Value) (id : Nat) (y : Value) : Nat → Value := fun i => if i = id then y else μ i
def putκ (E : Env) (b : Nat) (x : Root × Pos) : Env := ⟨E.S, fun c => if c = b then some x else E.κ c⟩

theorem KpH.push (H : Heap) (b : Option Blk) (y : Value) : KpH μ (putμ μ H.length y) H (H ++ [b]) := by
  intro id c h
  have hlt : id < H.length := (List.getElem?_eq_some_iff.1 h).1
  refine ⟨c, by rw [List.getElem?_append_left hlt]; exact h, ?_⟩
  rw [show putμ μ H.length y id = μ id by simp [putμ]; omega]
  exact Kp.refl _ _

theorem alloc_heap (w : World) (o : Obj) : (w.alloc o).heap = w.heap.push o := rfl

theorem alloc_old (w : World) (o : Obj) {b : Nat} (h : b < w.heap.size) : (w.alloc o).heap[b]? = w.heap[b]? := Below.heap_alloc w o b h

/-- A block is made, and named. -/
theorem MR.alloc {k : Nat} (hM : MR w E μ H k) (arr : Array Value) (ty : TypeId) (y : Value) (blk : Blk)
    (hb : NB (w.alloc (.cells arr ty)) (putκ E w.heap.size (.id H.length, .top)) (putμ μ H.length y) (H ++ [some blk]) H.length blk) :
    MR (w.alloc (.cells arr ty)) (putκ E w.heap.size (.id H.length, .top)) (putμ μ H.length y) (H ++ [some blk]) k ∧
    Ext w E (w.alloc (.cells arr ty)) (putκ E w.heap.size (.id H.length, .top)) ∧
    (∀ b, E.S b → (putκ E w.heap.size (.id H.length, .top)).S b ∧ (w.alloc (.cells arr ty)).heap[b]? = w.heap[b]?) := by
  have hS : ∀ b, E.S b → (putκ E w.heap.size (.id H.length, .top)).S b ∧ (w.alloc (.cells arr ty)).heap[b]? = w.heap[b]? := fun b h => ⟨h, alloc_old w _ (hM.ltS b h)⟩
  have hκ : ∀ b, E.κ b ≠ none → b ≠ w.heap.size := fun b h e => by have := hM.ltκ b h; omega
  refine ⟨MR.step hM ?_ ?_ ?_ ?_ hS (KpH.push H _ y) ?_, ?_, hS⟩
  · intro b h
    have := hM.ltS b h
    simp only [putκ, if_neg (show b ≠ w.heap.size by omega)]
    exact hM.apart b h
  · intro b h
    have := hM.ltS b h
    simp [alloc_heap]; omega
  · intro b h
    simp only [putκ] at h
    split at h
    · simp [alloc_heap]; omega
    · have := hM.ltκ b h
      simp [alloc_heap]; omega
  · intro b r q h
    simp only [putκ] at h
    split at h
    · simp only [Option.some.injEq, Prod.mk.injEq] at h
      exact .inl ⟨H.length, h.1.symm, by simp⟩
    · rcases hM.roots b r q h with ⟨m, h1, h2⟩ | h1
      · exact .inl ⟨m, h1, by simp; omega⟩
      · exact .inr h1
  · intro id blk' h
    by_cases hid : id < H.length
    · rw [List.getElem?_append_left hid] at h
      refine .inl ⟨h, by simp [putμ]; omega, fun b q hq => ?_⟩
      have hb := hM.ltκ b (by simp [hq])
      refine ⟨?_, alloc_old w _ hb⟩
      simp only [putκ, if_neg (show b ≠ w.heap.size by omega)]
      exact hq
    · have hlt : id < (H ++ [some blk]).length := (List.getElem?_eq_some_iff.1 h).1
      have : id = H.length := by simp at hlt; omega
      subst this
      simp only [List.getElem?_concat_length, Option.some.injEq] at h
      subst h
      exact .inr hb
  · refine ⟨rfl, rfl, rfl, by simp [alloc_heap], fun b hb _ => alloc_old w _ hb, fun b h => h, fun b h => .inl h, fun b h => ?_⟩
    simp only [putκ] at h
    split at h
    · rename_i e; exact .inr (by omega)
    · exact .inl h

/-- Cells of zero. -/
def zlfs : Ty → List Lf
  | .int k => [.v (.int k) (0 : Int)]
  | .bool => [.v .bool false]
  | .str => [.v .str ByteArray.empty]
  | .sl _ => [.nil]
  | .pair a b => zlfs a ++ zlfs b

theorem zlfs_LR : ∀ t : Ty, All2 (LR w E μ H) (zlfs t) t.zeros
  | .int k => .cons (LR_int.2 rfl) .nil
  | .bool => .cons (LR_bool.2 rfl) .nil
  | .str => .cons (LR_str.2 rfl) .nil
  | .sl _ => .cons ⟨none, rfl⟩ .nil
  | .pair a b => (zlfs_LR a).append (zlfs_LR b)

theorem rep_first : ∀ {t : Ty} {r : Root} {x : t.den} {m : Md} {p : Nat → Pos} {g : Nat → Option Value}, Rep w E r t x m p g → ∃ v, g 0 = some v
  | .int _, _, _, _, _, _, h => ⟨_, h⟩
  | .bool, _, _, _, _, _, h => ⟨_, h⟩
  | .str, _, _, _, _, _, h => ⟨_, h⟩
  | .sl _, _, _, _, _, _, h => ⟨_, h.choose_spec.1⟩
  | .pair _ _, _, _, _, _, _, h => rep_first h.1

theorem lv_pos : ∀ t : Ty, 0 < t.lv
  | .int _ => by simp [Ty.lv]
  | .bool => by simp [Ty.lv]
  | .str => by simp [Ty.lv]
  | .sl _ => by simp [Ty.lv]
  | .pair a b => by have := lv_pos a; simp only [Ty.lv]; omega

theorem LR_one : ∀ {a : Lf} {y : Value}, LR w E μ H a y → y.oneCell' = true
  | .v t x, y, h => by
    cases t with
    | int k => rw [LR_int.1 h]; rfl
    | bool => rw [LR_bool.1 h]; rfl
    | str => rw [LR_str.1 h]; rfl
    | sl t =>
      have h' : Rep w E (.res 0) (.sl t) x .fz (fun _ => .top) (at0 y) := h
      exact rep_sl_one h' (by simp [at0])
    | pair a b =>
      obtain ⟨v, hv⟩ := rep_first h.2
      have := lv_pos a
      simp only [at0] at hv
      rw [if_neg (by omega)] at hv
      simp at hv
  | .nil, y, h => by obtain ⟨a, rfl⟩ := h; rfl
  | .hd .., y, h => h.1
  | .ptr .., y, h => h.1
  | .fp .., y, h => by obtain ⟨b, o, rfl, _⟩ := h; rfl
  | .any, y, h => h

theorem one_cells {y : Value} (h : y.oneCell' = true) : y.cells = #[y] := by
  cases y <;> first | rfl | simp [Value.oneCell'] at h

/-- The cells of a value that goes into a variable. -/
def cellsOf : AV → Option (List Lf)
  | .lf a => some [a]
  | .agg l => some l
  | _ => none

theorem cellsOf_run {v : AV} {l : List Lf} {y : Value} (h : cellsOf v = some l) (hy : AR w E μ H v y) : All2 (LR w E μ H) l y.cells.toList := by
  unfold cellsOf at h
  split at h
  · rename_i a
    simp only [Option.some.injEq] at h
    subst h
    rw [one_cells (LR_one hy)]
    exact .cons hy .nil
  · simp only [Option.some.injEq] at h
    subst h
    obtain ⟨arr, rfl, h⟩ := hy
    exact h
  · simp at h

/-- A new variable: of zero, or with a value. -/
def evNew (T : Tab) (n : Nat) (s : St) (o : Oper) : Option (Nat × AV × Heap) :=
  match o.guard, o.dst with
  | none, some d => cond (Nat.blt d n) (match o.op with
    | .alloc t => match T t with
      | some ti => some (d, .lf (.ptr s.H.length 0 0 0), s.H ++ [some (.box (zlfs ti.ty) t)])
      | none => none
    | .box t x => match opnd s.sl x with
      | some v => match cellsOf v with
        | some l => some (d, .lf (.ptr s.H.length 0 0 0), s.H ++ [some (.box l t)])
        | none => none
      | none => none
    | _ => none) none
  | _, _ => none

theorem box_new {k : Nat} (hM : MR w E μ H k) (arr : Array Value) (ty : TypeId) (l : List Lf) (h : All2 (LR w E μ H) l arr.toList) :
    NB (w.alloc (.cells arr ty)) (putκ E w.heap.size (.id H.length, .top)) (putμ μ H.length (.pointer (some ⟨w.heap.size, 0, none⟩))) (H ++ [some (.box l ty)]) H.length (.box l ty) := by
  refine ⟨w.heap.size, arr, by simp [putμ], by simp [putκ], by simp [alloc_heap], h.imp ?_⟩
  exact LR.keep (fun b hb => ⟨hb, alloc_old w _ (hM.ltS b hb)⟩) (KpH.push H _ _)

theorem VO.new {o : Oper} {d : Nat} {v : AV} {H' : Heap} (hT : TabOk P T) (h : evNew T n s o = some (d, v, H')) (k : VO P n w0 E0 ops Q rest ⟨(d, v) :: s.sl, H'⟩) : VO P n w0 E0 ops Q (o :: rest) s := by
  intro a w hs
  obtain ⟨E, μ, hA⟩ := hs.at
  unfold evNew at h
  split at h
  · rename_i d' hg hd
    cases hb : Nat.blt d' n with
    | false => rw [hb] at h; simp at h
    | true =>
      rw [hb] at h
      simp only [cond_true] at h
      have hdn : d' < n := by simpa [Nat.blt_eq] using hb
      have fin : ∀ (arr : Array Value) (ty : TypeId) (l : List Lf), All2 (LR w E μ s.H) l arr.toList → (execOp a.eval o).run P w = .ok (.value (.pointer (some ⟨w.heap.size, 0, none⟩))) (w.alloc (.cells arr ty)) →
          VO P n w0 E0 ops Q rest ⟨(d', .lf (.ptr s.H.length 0 0 0)) :: s.sl, s.H ++ [some (.box l ty)]⟩ → wpList P ops (fun e a' w' => ∃ s', SRel n w0 E0 s' a' w' ∧ Q e s') (o :: rest) a w := by
        intro arr ty l hl hrun k
        obtain ⟨h1, h2, h3⟩ := MR.alloc hA.mr arr ty _ _ (box_new hA.mr arr ty l hl)
        refine wpList_value hg hrun ?_
        rw [hd]
        refine k _ _ (hA.put hdn h1 h2 h3 (KpH.push s.H _ _) ?_).rel
        simp [AR, LR, putμ, Value.oneCell']
      split at h
      · rename_i t ho
        split at h
        · rename_i ti hi
          simp only [Option.some.injEq, Prod.mk.injEq] at h
          obtain ⟨rfl, rfl, rfl⟩ := h
          obtain ⟨info, h1, h2, h3, _⟩ := (hT t ti hi).info
          obtain ⟨z, hz, hz'⟩ := Option.map_eq_some_iff.1 h3
          refine fin z.cells t (zlfs ti.ty) (by rw [hz']; exact zlfs_LR _) ?_ k
          simp only [execOp, ho, Instr.alloc, Sem.run_bind, zeroValue, typeInfo, run_program, Result.andThen_ok, h1, Sem.run_pure, hz, newVar, newRow, run_newObj]
          rfl
        · simp at h
      · rename_i t x ho
        split at h
        · rename_i v' hv
          split at h
          · rename_i l hl
            simp only [Option.some.injEq, Prod.mk.injEq] at h
            obtain ⟨rfl, rfl, rfl⟩ := h
            refine fin (a.eval x).cells t l (cellsOf_run hl (hA.opnd hv)) ?_ k
            simp only [execOp, ho, Instr.box, newVar, newRow, Sem.run_bind, run_newObj, Result.andThen_ok, Sem.run_pure]
            rfl
          · simp at h
        · simp at h
      · simp at h
  · simp at h
end
end Go.Proofs.Ytgpddckjpokclaa.Vc
