/- The library's texts of numbers, and texts joined: what is proved of them once, as contracts of the calculus. It speaks of any program. -/
import Derived.Test.YtgpddckjpokclaaDoorVc36
import Derived.Shelf.Strconv.Itoa3
import Derived.Lib.Join
namespace Go.Proofs.YtgpddckjpokclaaDoor.Vc
open Go Go.RowKit
set_option linter.unusedVariables false
set_option linter.unusedSimpArgs false

section
variable {P : Program} {w w' : World} {E E' : Env} {μ μ' : Nat → Value} {H H' : Heap}

theorem args1 {E : Env} {args : Array Value} {p : AV} (h : All2 (AR w E (fun _ => undef) []) [p] args.toList) : ∃ y, args = #[y] ∧ AR w E (fun _ => undef) [] p y := by
  obtain ⟨l⟩ := args
  cases h with
  | cons h1 h2 =>
    cases h2
    exact ⟨_, rfl, h1⟩

theorem args2 {E : Env} {args : Array Value} {p q : AV} (h : All2 (AR w E (fun _ => undef) []) [p, q] args.toList) : ∃ y z, args = #[y, z] ∧ AR w E (fun _ => undef) [] p y ∧ AR w E (fun _ => undef) [] q z := by
  obtain ⟨l⟩ := args
  cases h with
  | cons h1 h2 =>
    cases h2 with
    | cons h3 h4 =>
      cases h4
      exact ⟨_, _, rfl, h1, h3⟩

/-- Behind a call that made new blocks at most. -/
theorem str_back {ps : List AV} {w w' : World} {E : Env} {s : ByteArray} (hκ : ∀ b, E.κ b = none) (hlt : ∀ b, E.S b → b < w.heap.size) (hB : Below w.heap.size w w') :
    ∃ y E', Ending.returned (Value.string s) = .returned y ∧ Ext w E w' E' ∧ (∀ b, E'.S b → E'.κ b = none) ∧ (∀ b, E'.S b → b < w'.heap.size) ∧ (∀ b, E'.κ b ≠ none → b < w'.heap.size) ∧
      (∀ b r q, E'.κ b = some (r, q) → ∃ n, r = .res n ∧ n < cntC [.lf (.v .str s)]) ∧ RR w' E' [.lf (.v .str s)] y := by
  refine ⟨.string s, E, rfl, ⟨hB.os, hB.tape, hB.output, hB.size, fun b hb _ => hB.block b hb, fun _ h => h, fun _ h => .inl h, fun b h => .inl h⟩, fun b _ => hκ b, fun b hb => Nat.lt_of_lt_of_le (hlt b hb) hB.size, fun b h => absurd (hκ b) h, (fun b r q h => by rw [hκ] at h; cases h), ?_⟩
  simp [RR, RCs, RLs, Rep, at0]

theorem Tabs.of_tab (h : Lib.TabIs P w "internal/strconv.uint64pow10" .u64 Lib.pow10Tab) : Tabs P w (allE w) := by
  intro g hg
  refine ⟨rfl, ?_, h⟩
  simp only [Lib.TabIs, World.var?, hg, Option.bind_some] at h
  split at h
  · rename_i cs t fr hc
    exact (Array.getElem?_eq_some_iff.1 hc).1
  · cases h

/-- A number's text. -/
theorem con_itoa {f : FuncId} {g : Nat} (hg : P.globalNamed "internal/strconv.uint64pow10" = some g) (he : ∀ args w, (callFunc f args).run P w = .ok (.enter f args) w) {n : Int}
    (h : ∀ w, Lib.TabIs P w "internal/strconv.uint64pow10" .u64 Lib.pow10Tab → Calls P f #[.int .i64 n] w fun e w' => e = .returned (.string ⟨(Lib.itoa n).toArray⟩) ∧ ∃ k os, w' = Sort.grow (w.drewN k) os) :
    Con P f [I n] [.lf (.v .str ⟨(Lib.itoa n).toArray⟩)] := by
  refine ⟨he, fun w E args hκ hlt ht hargs => ?_⟩
  obtain ⟨y, rfl, hy⟩ := args1 hargs
  simp only [AR, LR, Rep, at0, if_true, Option.some.injEq] at hy
  subst hy
  refine (h w (ht g hg).2.2).mono ?_
  rintro e w' ⟨rfl, k, os, rfl⟩
  refine str_back (ps := []) hκ hlt ⟨rfl, rfl, rfl, ?_, fun b hb => ?_⟩
  · simp [Sort.grow, World.drewN]
  · simp only [Sort.grow, World.drewN]
    rw [Array.getElem?_append_left hb]

/-- Texts joined. -/
theorem con_join {f : FuncId} (he : ∀ args w, (callFunc f args).run P w = .ok (.enter f args) w) {xs : List ByteArray} {sep : ByteArray} (hN : xs.length ≤ 140737488355328) (hlen : (Lib.join (xs.map (·.data.toList)) sep.data.toList).length ≤ 140737488355328)
    (h0 : ∀ (a : Option Addr) (c : Nat) w, Calls P f #[.slice a 0 c, .string sep] w fun e w' => e = .returned (.string ⟨#[]⟩) ∧ w' = w)
    (h : ∀ (bk o c : Nat) w, (∀ (j : Nat) x, xs[j]? = some x → w.cell? ⟨bk, o + j, none⟩ = some (.string x)) → bk < w.heap.size → xs.length ≤ c →
      Calls P f #[.slice (some ⟨bk, o, none⟩) xs.length c, .string sep] w fun e w' => e = .returned (.string ⟨(Lib.join (xs.map (·.data.toList)) sep.data.toList).toArray⟩) ∧ Below w.heap.size w w') :
    Con P f [.lf (.v (.sl .str) xs), S sep] [.lf (.v .str ⟨(Lib.join (xs.map (·.data.toList)) sep.data.toList).toArray⟩)] := by
  refine ⟨he, fun w E args hκ hlt ht hargs => ?_⟩
  obtain ⟨y, z, rfl, hy, hz⟩ := args2 hargs
  simp only [AR, LR, Rep, at0, if_true, Option.some.injEq] at hz
  subst hz
  obtain ⟨v, hv, hy⟩ : Rep w E (.res 0) (.sl .str) xs .fz (fun _ => .top) (at0 y) := hy
  simp only [at0, if_true, Option.some.injEq] at hv
  subst hv
  rcases hy with ⟨_, hy⟩ | ⟨hm, _⟩
  · rcases hy with ⟨rfl, a, c, rfl⟩ | ⟨b, o, c, rfl, hc, hb, hrows⟩
    · refine (h0 a c w).mono ?_
      rintro e w' ⟨rfl, rfl⟩
      exact str_back (ps := []) hκ hlt (Below.refl _ _)
    · refine (h b o c w (fun j x hx => ?_) (hlt b hb) hc).mono ?_
      · obtain ⟨hj, rfl⟩ := List.getElem?_eq_some_iff.1 hx
        have := hrows j hj
        simpa [Rep, Ty.lv, cellAt] using this
      · rintro e w' ⟨rfl, hB⟩
        exact str_back (ps := []) hκ hlt hB
  · exact absurd rfl hm
end
end Go.Proofs.YtgpddckjpokclaaDoor.Vc
