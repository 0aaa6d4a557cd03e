/- A slice of integers that is lent is sorted, and cut to what differs: what is proved of the library's functions once, as contracts of the calculus. It speaks of any program. -/
import Derived.Test.YtgpddckjpokclaaVc37
import Derived.Sort.OwnSortedInts
import Derived.Lib.SlicesCompact
namespace Go.Proofs.Ytgpddckjpokclaa.Vc
open Go Go.RowKit Go.Sort
set_option linter.unusedVariables false
set_option linter.unusedSimpArgs false

section
variable {P : Program} {w w' : World} {E E' : Env} {μ μ' : Nat → Value} {H H' : Heap}

/-- What was lent is handed out. -/
def unlend (E : Env) : Env := ⟨E.S, fun c => match E.κ c with
  | some (.id 0, q) => some (.res 0, q)
  | _ => none⟩

theorem unlend_some {c : Nat} (h : (unlend E).κ c ≠ none) : E.κ c ≠ none := by
  intro e
  apply h
  simp only [unlend, e]

theorem args1M {args : Array Value} {p : AV} (h : All2 (AR w E μ H) [p] args.toList) : ∃ y, args = #[y] ∧ AR w E μ H p y := by
  obtain ⟨l⟩ := args
  cases h with
  | cons h1 h2 =>
    cases h2
    exact ⟨_, rfl, h1⟩

/-- The slice that is lent, in memory. -/
theorem lent_ints {xs : List Int} (hM : MR w E μ [some (.arr 0 (.int .i64) xs .dp)] 0) : (xs = [] ∧ ∃ a, μ 0 = .slice a 0 0) ∨
    ∃ b c arr ty, μ 0 = .slice (some ⟨b, 0, none⟩) xs.length c ∧ xs.length ≤ c ∧ w.heap[b]? = some (.cells arr ty (0, 0)) ∧ arr.size = c ∧ E.κ b = some (.id 0, .top) ∧ arr.toList.take xs.length = xs.map (Value.int .i64) := by
  obtain ⟨_, h⟩ := hM.arr (id := 0) rfl
  rcases h with h | ⟨b, c, arr, ty, h1, h2, h3, h4, h5, h6⟩
  · exact .inl h
  · refine .inr ⟨b, c, arr, ty, h1, h2, h3, by simpa [Ty.lv] using h4, h5, ?_⟩
    apply List.ext_getElem?
    intro i
    by_cases hi : i < xs.length
    · have := h6 i hi
      simp only [Rep, Ty.lv, Nat.mul_one, Nat.add_zero, cellAt, World.cell?, h3, Option.isSome_none, Bool.false_eq_true, if_false] at this
      rw [List.getElem?_take_of_lt hi, Array.getElem?_toList, this]
      simp [hi]
    · rw [List.getElem?_take_eq_none (by omega), List.getElem?_eq_none (by simp; omega)]

/-- Behind a call that wrote the slice's cells and no others. -/
theorem wrote_ints {b c n : Nat} {arr : Array Value} {ty : TypeId} {ys zs : List Int} {os : Array Obj} (hb : w.heap[b]? = some (.cells arr ty (0, 0))) (hsz : arr.size = c) (hy : ys.length ≤ zs.length) (hz : zs.length ≤ c) (hpre : zs.take ys.length = ys)
    (hw : w' = grow (putRow (Value.int .i64) (Sort.ahead w n) b 0 zs.toArray) os) :
    w'.os = w.os ∧ w'.tape = w.tape ∧ w'.output = w.output ∧ w.heap.size ≤ w'.heap.size ∧ (∀ k, k < w.heap.size → k ≠ b → w'.heap[k]? = w.heap[k]?) ∧ ∃ arr', w'.heap[b]? = some (.cells arr' ty (0, 0)) ∧ arr'.size = c ∧ ∀ i (h : i < ys.length), arr'[i]? = some (.int .i64 ys[i]) := by
  subst hw
  have hg := grownBy_sortedI (w := w) (g := b) (n := n) (os := os) zs.toArray
  have hh := heap_sortedI (n := n) (os := os) zs.toArray hb
  refine ⟨hg.os, hg.tape, hg.output, hg.size, fun k hk hne => hg.block k hk (fun e => hne (by simpa using e)), _, hh, by simpa [putCells] using hsz, fun i hi => ?_⟩
  have ht := take_putCellsI arr zs (by omega)
  have h1 : ((putCells (Value.int .i64) 0 zs.toArray arr).toList.take zs.length)[i]? = (zs.map (Value.int .i64))[i]? := by rw [ht]
  rw [List.getElem?_take_of_lt (by omega), Array.getElem?_toList] at h1
  rw [h1]
  have h2 : (zs.take ys.length)[i]? = ys[i]? := by rw [hpre]
  rw [List.getElem?_take_of_lt hi, List.getElem?_eq_getElem hi] at h2
  simp [h2]

/-- A slice sorted. -/
theorem con_sort {f : FuncId} (he : ∀ args w, (callFunc f args).run P w = .ok (.enter f args) w) {xs : List Int} (hsz : xs.length < 4611686018427387904)
    (h0 : ∀ (p : Option Addr) (c : Nat) w, Calls P f #[.slice p 0 c] w fun e w' => e = .returned (.tuple #[]) ∧ w' = w)
    (h : ∀ (b c : Nat) w, Holds (Value.int .i64) w b 0 xs.toArray → b < w.heap.size → Calls P f #[.slice (some ⟨b, 0, none⟩) xs.length c] w fun e w' =>
      e = .returned (.tuple #[]) ∧ ∃ n os, w' = grow (putRow (Value.int .i64) (Sort.ahead w n) b 0 (xs.mergeSort fun x y => decide (x ≤ y)).toArray) os) :
    ConM P f [some (.arr 0 (.int .i64) xs .dp)] [.lf (.hd 0 0 none)] [] [some (.arr 0 (.int .i64) (xs.mergeSort fun x y => decide (x ≤ y)) .dp)] := by
  refine ⟨he, fun w E μ args hM ht hargs => ?_⟩
  obtain ⟨y, rfl, hy⟩ := args1M hargs
  have hy : y = μ 0 := hy.2.2 rfl
  subst hy
  have hl : (xs.mergeSort fun x y => decide (x ≤ y)).length = xs.length := List.length_mergeSort _
  rcases lent_ints hM with ⟨rfl, a, ha⟩ | ⟨b, c, arr, ty, h1, h2, h3, h4, h5, h6⟩
  · rw [ha]
    refine (h0 a 0 w).mono ?_
    rintro e w' ⟨rfl, rfl⟩
    rw [show ([] : List Int).mergeSort (fun x y => decide (x ≤ y)) = [] by simp]
    exact ⟨_, E, μ, rfl, Ext.refl _ _, hM, fun _ _ _ => rfl, #[], rfl, trivial⟩
  · rw [h1]
    have hlt : b < w.heap.size := (Array.getElem?_eq_some_iff.1 h3).1
    refine (h b c w (holds_of_blockI h3 h6) hlt).mono ?_
    rintro e w' ⟨rfl, n, os, hw⟩
    obtain ⟨k1, k2, k3, k4, k5, arr', k6, k7, k8⟩ := wrote_ints (ys := xs.mergeSort fun x y => decide (x ≤ y)) (zs := xs.mergeSort fun x y => decide (x ≤ y)) h3 h4 (Nat.le_refl _) (by omega) (List.take_of_length_le (Nat.le_refl _)) hw
    have hX : Ext w E w' E := ⟨k1, k2, k3, k4, fun c hc hn => k5 c hc (fun e => by rw [e, h5] at hn; cases hn), fun _ h => h, fun _ h => .inl h, fun _ h => .inl h⟩
    refine ⟨_, E, μ, rfl, hX, ⟨hM.apart, fun c hc => Nat.lt_of_lt_of_le (hM.ltS c hc) k4, fun c hc => Nat.lt_of_lt_of_le (hM.ltκ c hc) k4, fun c r q hc => ?_, fun i blk hi => ?_⟩, fun _ _ _ => rfl, #[], rfl, trivial⟩
    · rcases hM.roots c r q hc with ⟨m, g1, g2⟩ | ⟨m, _, g2⟩
      · exact .inl ⟨m, g1, by simpa using g2⟩
      · omega
    · cases i with
      | zero =>
        simp only [List.getElem?_cons_zero, Option.some.injEq] at hi
        subst hi
        refine ⟨by simp, μ 0, by simp [at0], .inr ⟨by simp, .inr ⟨b, c, arr', ty, by rw [h1, hl], by omega, k6, by simpa [Ty.lv] using k7, h5, fun j hj => ?_⟩⟩⟩
        have := k8 j hj
        simp only [Rep, Ty.lv, Nat.mul_one, Nat.add_zero, cellAt, World.cell?, k6, Option.isSome_none, Bool.false_eq_true, if_false]
        exact this
      | succ i => simp at hi

theorem compact_le (xs : List Int) : (Lib.compact xs).length ≤ xs.length := by
  unfold Lib.compact Lib.compactUpTo
  rw [List.length_map]
  refine Nat.le_trans (List.length_filter_le _ _) ?_
  simp

/-- A slice cut to what differs from what stands before it. -/
theorem con_compact {f : FuncId} (he : ∀ args w, (callFunc f args).run P w = .ok (.enter f args) w) {xs : List Int} (hsz : xs.length ≤ 9223372036854775807)
    (h0 : ∀ (p : Option Addr) (c : Nat) w, Calls P f #[.slice p 0 c] w fun e w' => e = .returned (.slice p 0 c) ∧ w' = w)
    (h : ∀ (b c : Nat) w, Holds (Value.int .i64) w b 0 xs.toArray → xs.length ≤ c → Calls P f #[.slice (some ⟨b, 0, none⟩) xs.length c] w fun e w' =>
      e = .returned (.slice (some ⟨b, 0, none⟩) (Lib.compact xs).length c) ∧ ∃ q, w' = putRow (Value.int .i64) (Sort.ahead w q) b 0 (Lib.compact xs ++ List.replicate (xs.length - (Lib.compact xs).length) 0).toArray) :
    ConM P f [some (.arr 0 (.int .i64) xs .dp)] [.lf (.hd 0 0 none)] [.lf (.own (.int .i64) (Lib.compact xs) .dp)] [none] := by
  have hcl := compact_le xs
  have hc0 : Lib.compact ([] : List Int) = [] := rfl
  refine ⟨he, fun w E μ args hM ht hargs => ?_⟩
  obtain ⟨y, rfl, hy⟩ := args1M hargs
  have hy : y = μ 0 := hy.2.2 rfl
  subst hy
  -- what was lent is handed out
  have key : ∀ (w' : World) (y : Value), Ext w E w' E → Rep w' (unlend E) (.res 0) (.sl (.int .i64)) (Lib.compact xs) .dp (fun _ => .top) (at0 y) → ∃ y' E' μ', Ending.returned y = .returned y' ∧ Ext w E w' E' ∧ MR w' E' μ' [none] (cntC [.lf (.own (.int .i64) (Lib.compact xs) .dp)]) ∧ (∀ k blk, ([none] : Heap)[k]? = some (some blk) → μ' k = μ k) ∧ RR w' E' [.lf (.own (.int .i64) (Lib.compact xs) .dp)] y' := by
    intro w' y hX hR
    refine ⟨y, unlend E, μ, rfl, ⟨hX.os, hX.tape, hX.output, hX.size, hX.block, hX.grow, hX.from_, fun c hc => hX.own c (unlend_some hc)⟩, ⟨fun c hc => ?_, fun c hc => Nat.lt_of_lt_of_le (hM.ltS c hc) hX.size, fun c hc => Nat.lt_of_lt_of_le (hM.ltκ c (unlend_some hc)) hX.size, fun c r q hc => ?_, fun i blk hi => ?_⟩, fun k blk hi => ?_, ⟨⟨by simp, hR⟩, trivial⟩, trivial⟩
    · have := hM.apart c hc
      simp only [unlend, this]
    · simp only [unlend] at hc
      split at hc
      · simp only [Option.some.injEq, Prod.mk.injEq] at hc
        exact .inr ⟨0, hc.1.symm, by simp [cntC, cnt, RC.ls]⟩
      · cases hc
    · cases i with
      | zero => simp at hi
      | succ i => simp at hi
    · cases k with
      | zero => simp at hi
      | succ i => simp at hi
  rcases lent_ints hM with ⟨rfl, a, ha⟩ | ⟨b, c, arr, ty, h1, h2, h3, h4, h5, h6⟩
  · rw [ha]
    refine (h0 a 0 w).mono ?_
    rintro e w' ⟨rfl, rfl⟩
    refine key _ _ (Ext.refl _ _) ?_
    rw [hc0]
    exact ⟨_, by simp [at0], .inr ⟨by simp, .inl ⟨rfl, a, rfl⟩⟩⟩
  · rw [h1]
    have hlt : b < w.heap.size := (Array.getElem?_eq_some_iff.1 h3).1
    refine (h b c w (holds_of_blockI h3 h6) h2).mono ?_
    rintro e w' ⟨rfl, q, hw⟩
    have hzl : (Lib.compact xs ++ List.replicate (xs.length - (Lib.compact xs).length) 0).length = xs.length := by simp; omega
    obtain ⟨k1, k2, k3, k4, k5, arr', k6, k7, k8⟩ := wrote_ints (w' := w') (n := q) (os := #[]) (ys := Lib.compact xs) (zs := Lib.compact xs ++ List.replicate (xs.length - (Lib.compact xs).length) 0) h3 h4 (by omega) (by omega) (by simp) (by rw [hw]; rfl)
    have hX : Ext w E w' E := ⟨k1, k2, k3, k4, fun c hc hn => k5 c hc (fun e => by rw [e, h5] at hn; cases hn), fun _ h => h, fun _ h => .inl h, fun _ h => .inl h⟩
    refine key _ _ hX ⟨_, by simp [at0], .inr ⟨by simp, .inr ⟨b, c, arr', ty, rfl, by omega, k6, by simpa [Ty.lv] using k7, by simp only [unlend, h5], fun j hj => ?_⟩⟩⟩
    have := k8 j hj
    simp only [Rep, Ty.lv, Nat.mul_one, Nat.add_zero, cellAt, World.cell?, k6, Option.isSome_none, Bool.false_eq_true, if_false]
    exact this
end
end Go.Proofs.Ytgpddckjpokclaa.Vc
