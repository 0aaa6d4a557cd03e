/- A calculus of values over the model, part 17b: bytes and strings. It speaks of any program. -/
import Derived.Test.YtgpddckjpokclaaVc17
import Derived.Laws.BytesArg
import Derived.Lib.ConvBytes
namespace Go.Proofs.Ytgpddckjpokclaa.Vc
open Go Go.RowKit Go.Lib
set_option linter.unusedVariables false
set_option linter.unusedSimpArgs false

def bytesOf (s : ByteArray) : List Int := s.data.toList.map fun b => (b.toNat : Int)

def isBytes (T : Tab) (t : TypeId) : Bool := match T t with
  | some { ty := .sl (.int .u8), .. } => true
  | _ => false

def isStr (T : Tab) (t : TypeId) : Bool := match T t with
  | some { ty := .str, .. } => true
  | _ => false

/-- A string out of bytes; bytes out of a string (which nobody writes). -/
def evBy (T : Tab) (n : Nat) (s : St) (o : Oper) : Option (Nat × AV) :=
  match o.guard, o.dst, o.op with
  | none, some d, .convert a b x => cond (Nat.blt d n) (match opnd s.sl x with
    | some v => cond (isBytes T a && isStr T b) ((srcRows s.H (.int .u8) v).map fun xs => (d, .lf (.v .str (strOfNums xs)))) (cond (isStr T a && isBytes T b) (match v with
      | .lf (.v .str z) => some (d, .lf (.v (.sl (.int .u8)) (bytesOf z)))
      | _ => none) none)
    | none => none) none
  | _, _, _ => none

section
variable {P : Program} {T : Tab} {n : Nat} {w0 : World} {E0 : Env0} {s s' s'' : St} {ops : Array Oper} {Q : Exit → St → Prop} {rest : List Oper} {sl sl' : List (Nat × AV)} {H : Heap}
variable {w w' : World} {E E' : Env} {μ μ' : Nat → Value}

theorem isBytes_under (hT : TabOk P T) {t : TypeId} (h : isBytes T t = true) : ∃ e, P.underlying t = some (.slice e) ∧ P.underlying e = some (.int .u8) := by
  unfold isBytes at h
  split at h
  · rename_i e offs szs hi
    obtain ⟨h1, j, h2, h3⟩ := hT.slice hi rfl
    have := (hT _ _ h2).under
    rw [h3] at this
    exact ⟨_, h1, this⟩
  · simp at h

theorem isStr_under (hT : TabOk P T) {t : TypeId} (h : isStr T t = true) : P.underlying t = some .string := by
  unfold isStr at h
  split at h
  · rename_i e offs szs hi
    exact (hT _ _ hi).under
  · simp at h

theorem VO.by_ {o : Oper} {d : Nat} {v : AV} (hT : TabOk P T) (h : evBy T n s o = some (d, v)) (k : VO P n w0 E0 ops Q rest ⟨(d, v) :: s.sl, s.H⟩) : VO P n w0 E0 ops Q (o :: rest) s := by
  intro a w hs
  obtain ⟨E, μ, hA⟩ := hs.at
  unfold evBy at h
  split at h
  · rename_i d' ta tb x hg hd ho
    cases hb : Nat.blt d' n with
    | false => rw [hb] at h; simp at h
    | true =>
      rw [hb] at h
      simp only [cond_true] at h
      have hdn : d' < n := by simpa [Nat.blt_eq] using hb
      split at h
      · rename_i v' hv
        cases h1 : (isBytes T ta && isStr T tb) with
        | true =>
          rw [h1] at h
          simp only [cond_true, Option.map_eq_some_iff, Prod.mk.injEq] at h
          obtain ⟨xs, hx, rfl, rfl⟩ := h
          simp only [Bool.and_eq_true] at h1
          obtain ⟨e, u1, u2⟩ := isBytes_under hT h1.1
          have u3 := isStr_under hT h1.2
          obtain ⟨ad, c, news, y1, y2, y3, y4, y5⟩ := srcRows_run hA.mr hx (hA.opnd hv)
          have hnews : news = xs.map (Value.int .u8) := by
            apply List.ext_getElem?
            intro i
            by_cases hi : i < xs.length
            · have := y5 i hi
              simp only [Rep, Ty.lv, Nat.mul_one, Nat.add_zero] at this
              rw [this]
              simp [List.getElem?_eq_getElem hi]
            · rw [List.getElem?_eq_none (by simp [Ty.lv] at y2; omega), List.getElem?_eq_none (by simp; omega)]
          have hrun : (convert ta tb (a.eval x)).run P w = .ok (.string (strOfNums xs)) w := by
            rw [y1, run_convert_bytes_string w ta tb e ad xs.length c u1 u2 u3]
            cases ad with
            | none =>
              have hxs : xs = [] := by
                cases xs with
                | nil => rfl
                | cons a b => obtain ⟨b, hb, _⟩ := y3 (by simp); simp at hb
              subst hxs
              simp [Conv.bytesToString, strOfNums]
              rfl
            | some b =>
              have hl : (loadCells b xs.length).run P w = .ok (xs.map (Value.int .u8)).toArray w := by
                have := run_loadCells_list (P := P) w b (xs.map (Value.int .u8)) (fun j v hj => by
                  rw [← hnews] at hj
                  have hne : xs ≠ [] := by
                    intro e
                    subst e
                    rw [hnews] at hj
                    simp at hj
                  obtain ⟨b', hb', hc⟩ := y3 hne
                  simp only [Option.some.injEq] at hb'
                  subst hb'
                  exact hc j v hj)
                simpa using this
              rw [run_bytesToString w _ xs.length c xs hl, foldl_push_bytes]
              simp [strOfNums, ByteArray.empty, ByteArray.emptyWithCapacity]
              rfl
          refine wpList_value hg (y := .string (strOfNums xs)) (w' := w) ?_ ?_
          · simp only [execOp, ho, Sem.run_bind, hrun, Result.andThen_ok, Sem.run_pure]
          · rw [hd]
            exact k _ _ (hA.put hdn hA.mr (Ext.refl w E) (fun b hb => ⟨hb, rfl⟩) (KpH.refl μ s.H) (AR_str _)).rel
        | false =>
          rw [h1] at h
          simp only [cond_false] at h
          cases h2 : (isStr T ta && isBytes T tb) with
          | false => rw [h2] at h; simp at h
          | true =>
            rw [h2] at h
            simp only [cond_true] at h
            simp only [Bool.and_eq_true] at h2
            obtain ⟨e, u1, u2⟩ := isBytes_under hT h2.2
            have u3 := isStr_under hT h2.1
            split at h
            · rename_i z
              simp only [Option.some.injEq, Prod.mk.injEq] at h
              obtain ⟨rfl, rfl⟩ := h
              have hz := hA.opnd hv
              simp only [AR, LR_str] at hz
              have hrun := Go.Lib.run_convert_string_bytes (P := P) w ta tb e z u3 u1 u2
              refine wpList_value hg (y := .slice (some ⟨w.heap.size, 0, none⟩) z.size (grownCap w z.size 0 e)) (w' := bytesWorld w e z) ?_ ?_
              · simp only [execOp, ho, hz, Sem.run_bind, hrun, Result.andThen_ok, Sem.run_pure]
              · rw [hd]
                let E' : Env := ⟨fun b => E.S b ∨ b = w.heap.size, E.κ⟩
                have hold : ∀ b, b < w.heap.size → (bytesWorld w e z).heap[b]? = w.heap[b]? := fun b hb => bytesWorld_at_old w e z b hb
                have hS : ∀ b, E.S b → E'.S b ∧ (bytesWorld w e z).heap[b]? = w.heap[b]? := fun b hb => ⟨.inl hb, hold b (hA.mr.ltS b hb)⟩
                have hM : MR (bytesWorld w e z) E' μ s.H 0 := by
                  refine MR.step hA.mr (fun b hb => ?_) (fun b hb => ?_) (fun b hb => ?_) hA.mr.roots hS (KpH.refl μ s.H) (fun id blk h => .inl ⟨h, rfl, fun b q hq => ⟨hq, hold b (hA.mr.ltκ b (by simp [hq]))⟩⟩)
                  · rcases hb with hb | rfl
                    · exact hA.mr.apart b hb
                    · cases hk : E.κ w.heap.size with
                      | none => rfl
                      | some q => have := hA.mr.ltκ w.heap.size (by simp [hk]); omega
                  · rw [bytesWorld_size]
                    rcases hb with hb | rfl
                    · have := hA.mr.ltS b hb; omega
                    · omega
                  · rw [bytesWorld_size]
                    have := hA.mr.ltκ b hb
                    omega
                have hX : Ext w E (bytesWorld w e z) E' := ⟨rfl, rfl, rfl, by rw [bytesWorld_size]; omega, fun b hb _ => hold b hb, fun b hb => .inl hb, fun b hb => by
                  rcases hb with hb | rfl
                  · exact .inl hb
                  · exact .inr (.inr (Nat.le_refl _)), fun b hb => .inl hb⟩
                refine k _ _ (hA.put hdn hM hX hS (KpH.refl μ s.H) ?_).rel
                have hlen : (bytesOf z).length = z.size := by
                  simp only [bytesOf, List.length_map, Array.length_toList]
                  rfl
                refine ⟨_, rfl, .inl ⟨rfl, .inr ⟨w.heap.size, 0, grownCap w z.size 0 e, by rw [hlen], ?_, .inr rfl, fun i hi => ?_⟩⟩⟩
                · rw [hlen]
                  exact Nat.le_add_right _ _
                · rw [hlen] at hi
                  simp only [Rep, Ty.lv, Nat.mul_one, Nat.add_zero, Nat.zero_add, cellAt]
                  rw [bytesWorld_cell w e z i hi]
                  simp [bytesOf, List.getD, hi]
            · simp at h
      · simp at h
  · simp at h

end
end Go.Proofs.Ytgpddckjpokclaa.Vc
