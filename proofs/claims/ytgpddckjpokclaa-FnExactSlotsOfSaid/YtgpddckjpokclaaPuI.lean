/- Slots, in order: a list sorted and cut to what differs is the same as the numbers picked from 0 on. -/
import Derived.Test.YtgpddckjpokclaaPuT
import Derived.Test.YtgpddckjpokclaaPuM
namespace Go.Proofs.Ytgpddckjpokclaa.Vc
open Go Go.RowKit
set_option linter.unusedVariables false
set_option linter.unusedSimpArgs false

/-- Rising lists with the same members are one. -/
theorem incr_ext : ∀ {a b : List Int}, a.Pairwise (· < ·) → b.Pairwise (· < ·) → (∀ y, y ∈ a ↔ y ∈ b) → a = b
  | [], [], _, _, _ => rfl
  | [], y :: b, _, _, h => by have := (h y).2 (by simp); simp at this
  | x :: a, [], _, _, h => by have := (h x).1 (by simp); simp at this
  | x :: a, y :: b, ha, hb, h => by
    rw [List.pairwise_cons] at ha hb
    have e : x = y := by
      rcases List.mem_cons.1 ((h x).1 (by simp)) with h1 | h1
      · exact h1
      · rcases List.mem_cons.1 ((h y).2 (by simp)) with h2 | h2
        · exact h2.symm
        · have := ha.1 y h2
          have := hb.1 x h1
          omega
    subst e
    congr 1
    refine incr_ext ha.2 hb.2 fun z => ?_
    constructor
    · intro hz
      have hlt := ha.1 z hz
      rcases List.mem_cons.1 ((h z).1 (by simp [hz])) with h1 | h1
      · omega
      · exact h1
    · intro hz
      have hlt := hb.1 z hz
      rcases List.mem_cons.1 ((h z).2 (by simp [hz])) with h1 | h1
      · omega
      · exact h1

/-- What is left of a list in order. -/
theorem compact_upto (d : Array Int) (hd : ∀ i j, i ≤ j → j < d.size → d[i]! ≤ d[j]!) : ∀ m, m ≤ d.size → (Lib.compactUpTo d m).Pairwise (· < ·) ∧ (∀ y, y ∈ Lib.compactUpTo d m ↔ ∃ j, j < m ∧ d[j]! = y) := by
  intro m
  induction m with
  | zero => intro _; simp [Lib.compactUpTo]
  | succ m ih =>
    intro hm
    obtain ⟨h1, h2⟩ := ih (by omega)
    rw [Lib.compactUpTo_succ]
    cases hk : Lib.keeps d m with
    | true =>
      simp only [if_true]
      constructor
      · rw [List.pairwise_append]
        refine ⟨h1, by simp, fun a ha b hb => ?_⟩
        simp only [List.mem_singleton] at hb
        subst hb
        obtain ⟨j, hj, rfl⟩ := (h2 a).1 ha
        simp only [Lib.keeps, decide_eq_true_eq] at hk
        have hm0 : m ≠ 0 := by omega
        have hne := hk.resolve_left hm0
        have l1 := hd j (m - 1) (by omega) (by omega)
        have l2 := hd (m - 1) m (by omega) (by omega)
        omega
      · intro y
        simp only [List.mem_append, List.mem_singleton, h2]
        constructor
        · rintro (⟨j, hj, rfl⟩ | rfl)
          · exact ⟨j, by omega, rfl⟩
          · exact ⟨m, by omega, rfl⟩
        · rintro ⟨j, hj, rfl⟩
          by_cases e : j = m
          · subst e; exact .inr rfl
          · exact .inl ⟨j, by omega, rfl⟩
    | false =>
      simp only [Bool.false_eq_true, if_false, List.append_nil]
      refine ⟨h1, fun y => ?_⟩
      rw [h2]
      simp only [Lib.keeps, decide_eq_false_iff_not, not_or] at hk
      have hm0 := hk.1
      have he : d[m]! = d[m - 1]! := Decidable.not_not.1 hk.2
      constructor
      · rintro ⟨j, hj, rfl⟩; exact ⟨j, by omega, rfl⟩
      · rintro ⟨j, hj, rfl⟩
        by_cases e : j = m
        · subst e; exact ⟨j - 1, by omega, he.symm⟩
        · exact ⟨j, by omega, rfl⟩

theorem compact_sorted {xs : List Int} (h : xs.Pairwise (· ≤ ·)) : (Lib.compact xs).Pairwise (· < ·) ∧ ∀ y, y ∈ Lib.compact xs ↔ y ∈ xs := by
  have hd : ∀ i j, i ≤ j → j < xs.toArray.size → xs.toArray[i]! ≤ xs.toArray[j]! := by
    intro i j hij hj
    simp only [List.size_toArray] at hj
    rw [getElem!_pos xs.toArray i (by simp; omega), getElem!_pos xs.toArray j (by simpa using hj)]
    simp only [List.getElem_toArray]
    by_cases e : i = j
    · subst e; exact Int.le_refl _
    · exact List.pairwise_iff_getElem.1 h i j (by omega) hj (by omega)
  obtain ⟨h1, h2⟩ := compact_upto xs.toArray hd xs.length (by simp)
  refine ⟨h1, fun y => (h2 y).trans ?_⟩
  constructor
  · rintro ⟨j, hj, rfl⟩
    rw [getElem!_pos xs.toArray j (by simpa using hj)]
    simp
  · intro hy
    obtain ⟨j, hj, rfl⟩ := List.getElem_of_mem hy
    exact ⟨j, hj, by rw [getElem!_pos xs.toArray j (by simpa using hj)]; simp⟩

theorem sort_compact (xs : List Int) : (Lib.compact (xs.mergeSort fun x y => decide (x ≤ y))).Pairwise (· < ·) ∧ ∀ y, y ∈ Lib.compact (xs.mergeSort fun x y => decide (x ≤ y)) ↔ y ∈ xs := by
  have hp : (xs.mergeSort fun x y => decide (x ≤ y)).Pairwise (· ≤ ·) := by
    refine (List.pairwise_mergeSort (le := fun x y => decide (x ≤ y)) (fun a b c h1 h2 => ?_) (fun a b => ?_) xs).imp (fun h => by simpa using h)
    · simp only [decide_eq_true_eq] at *; omega
    · simp only [Bool.or_eq_true, decide_eq_true_eq]; omega
  obtain ⟨h1, h2⟩ := compact_sorted hp
  exact ⟨h1, fun y => (h2 y).trans List.mem_mergeSort⟩

theorem foldS_pw (x : Int) : ∀ (p : List Nd) (out : List Int), out.Pairwise (· < ·) → (∀ y ∈ out, y ≤ x) → (p.foldl (stepS x) out).Pairwise (· < ·) ∧ ∀ y ∈ p.foldl (stepS x) out, y ≤ x
  | [], out, h1, h2 => ⟨h1, h2⟩
  | nd :: p, out, h1, h2 => by
    rw [List.foldl_cons]
    have key : (stepS x out nd).Pairwise (· < ·) ∧ ∀ y ∈ stepS x out nd, y ≤ x := by
      unfold stepS
      cases hc : (nd.2.2.2.2.2.1 && (nd.2.2.2.2.1 == x && !decide (x ∈ out))) with
      | false => exact ⟨h1, h2⟩
      | true =>
        simp only [Bool.and_eq_true, Bool.not_eq_true', decide_eq_false_iff_not] at hc
        simp only [cond_true]
        refine ⟨List.pairwise_append.2 ⟨h1, by simp, fun a ha b hb => ?_⟩, fun y hy => ?_⟩
        · simp only [List.mem_singleton] at hb
          subst hb
          have := h2 a ha
          have : a ≠ b := fun e => hc.2.2 (e ▸ ha)
          omega
        · rcases List.mem_append.1 hy with hy | hy
          · exact h2 y hy
          · simp only [List.mem_singleton] at hy; omega
    exact foldS_pw x p _ key.1 key.2

theorem slotsS_pw (p : List Nd) : ∀ (m j : Nat) (out : List Int), out.Pairwise (· < ·) → (∀ y ∈ out, y < (j : Int)) → (slotsS p (List.range' j m) out).Pairwise (· < ·) := by
  intro m
  induction m with
  | zero => intro j out h1 _; exact h1
  | succ m ih =>
    intro j out h1 h2
    obtain ⟨a1, a2⟩ := foldS_pw (j : Int) p out h1 (fun y hy => by have := h2 y hy; omega)
    exact ih (j + 1) _ a1 (fun y hy => by have := a2 y hy; omega)

def slF (out : List Int) (x : Nd) : List Int := cond x.2.2.2.2.2.1 (out ++ [x.2.2.2.2.1]) out

theorem slF_len : ∀ (p : List Nd) (out : List Int), (p.foldl slF out).length ≤ out.length + p.length
  | [], out => by simp
  | x :: p, out => by
    rw [List.foldl_cons]
    have h1 := slF_len p (slF out x)
    have h2 : (slF out x).length ≤ out.length + 1 := by unfold slF; cases x.2.2.2.2.2.1 <;> simp
    simp only [List.length_cons]
    omega

theorem slF_mem (y : Int) : ∀ (p : List Nd) (out : List Int), y ∈ p.foldl slF out ↔ y ∈ out ∨ ∃ nd ∈ p, nd.2.2.2.2.2.1 = true ∧ nd.2.2.2.2.1 = y
  | [], out => by simp
  | x :: p, out => by
    rw [List.foldl_cons, slF_mem y p]
    unfold slF
    cases hx : x.2.2.2.2.2.1 with
    | false => simp [hx]
    | true =>
      simp only [cond_true, List.mem_append, List.mem_cons, List.not_mem_nil, false_or, or_false, exists_eq_or_imp, hx, true_and, or_assoc]
      constructor
      · rintro (h | h | h)
        · exact .inl h
        · exact .inr (.inl h.symm)
        · exact .inr (.inr h)
      · rintro (h | h | h)
        · exact .inl h
        · exact .inr (.inl h.symm)
        · exact .inr (.inr h)
theorem iSlots_l (N : Nat) (p : List Nd) (hs : p.length ≤ 1048576) : ∀ (d k i : Nat) (out : List Int), i + d = p.length → d < k → out.length + d ≤ 3000000 → F31_l0 N p k out (p.length : Int) (i : Int) = F31_j0 N ((p.drop i).foldl slF out) := by
  intro d
  have hlim := lim_i64
  induction d with
  | zero =>
    intro k i out h hk ho
    rw [F31_l0_s _ _ (by omega), F31_l0_b]
    simp only [show ¬ (i : Int) < (p.length : Int) by omega, decide_false, cond_false]
    rw [List.drop_eq_nil_of_le (by omega)]
    rfl
  | succ d ih =>
    intro k i out h hk ho
    have hi : i < p.length := by omega
    rw [F31_l0_s _ _ (by omega), F31_l0_b]
    simp only [show (i : Int) < (p.length : Int) by omega, decide_true, cond_true, gd_true (inR hi), Int.toNat_natCast, getD_at hi, F31_j1]
    rw [gd_true (show out.length + [p[i].2.2.2.2.1].length ≤ lim (.int .i64) by simp; omega), w64 (by omega) (by omega), show ((i : Int) + 1) = ((i + 1 : Nat) : Int) by omega, ih (k - 1) (i + 1) out (by omega) (by omega) (by omega), ih (k - 1) (i + 1) (out ++ [p[i].2.2.2.2.1]) (by omega) (by omega) (by simp; omega)]
    rw [List.drop_eq_getElem_cons hi, List.foldl_cons]
    have hst : slF out p[i] = cond p[i].2.2.2.2.2.1 (out ++ [p[i].2.2.2.2.1]) out := rfl
    rw [hst]
    cases p[i].2.2.2.2.2.1 <;> rfl

theorem slots_v {N : Nat} {p : List Nd} (hf : Fits p) (hN : 1048576 < N) : ∃ r : List Int, F31 N p = some r ∧ F30 N p = some r ∧ r.length ≤ 1048576 := by
  obtain ⟨b, h1, h2, h3⟩ := planOk_v hf hN
  have hs := hf.1
  rw [slotsOf_v hf hN h2 (fun e => (h3 e).1)]
  unfold F31
  rw [h1, andO_of]
  cases b with
  | false => exact ⟨[], rfl, rfl, by simp⟩
  | true =>
    obtain ⟨h40, hok⟩ := h3 rfl
    simp only [Bool.not_true, cond_false, cond_true]
    have hl := iSlots_l N p hs p.length N 0 [] (by omega) (by omega) (by simp; omega)
    rw [show (((0 : Nat)) : Int) = 0 from rfl, List.drop_zero] at hl
    have hlen := slF_len p []
    simp only [List.length_nil, Nat.zero_add] at hlen
    have hml : ((p.foldl slF []).mergeSort fun x y => decide (x ≤ y)).length = (p.foldl slF []).length := List.length_mergeSort _
    have hcl := compact_le ((p.foldl slF []).mergeSort fun x y => decide (x ≤ y))
    refine ⟨Lib.compact ((p.foldl slF []).mergeSort fun x y => decide (x ≤ y)), ?_, ?_, by omega⟩
    · rw [hl]
      unfold F31_j0
      simp only [F89, F90]
      rw [gd_true (by omega), andO_of, gd_true (by omega), andO_of]
    · congr 1
      obtain ⟨c1, c2⟩ := sort_compact (p.foldl slF [])
      refine incr_ext (slotsS_pw p 40 0 [] .nil (by simp)) c1 fun y => ?_
      rw [c2, slF_mem, slotsS_mem]
      constructor
      · rintro (h | ⟨x, hx, rfl, nd, hm, hs', hn⟩)
        · simp at h
        · exact .inr ⟨nd, hm, hs', hn⟩
      · rintro (h | ⟨nd, hm, hs', hn⟩)
        · simp at h
        · have := slot_num (hok nd hm) hs'
          exact .inr ⟨y.toNat, by rw [List.mem_range'_1]; omega, by omega, nd, hm, hs', by omega⟩
theorem lawFnExactSlotsOf (a : List Nd) (h : (Ty.sl ndT).wf a) : ∃ N, F6 N a = some true := by
  refine ⟨3000000, ?_⟩
  unfold F6
  obtain ⟨r, e1, e2, e3, e4⟩ := szNodeS_v (N := 3000000) (l := 1048576) (len_of h) (by omega) (by omega) (by omega)
  rw [e1, andO_of]
  by_cases hr : r < 0
  · rw [decide_eq_true hr, cond_true]
  · have hf := e4 (by omega)
    obtain ⟨q, h1, h2, hq⟩ := slots_v (N := 3000000) hf (by omega)
    obtain ⟨v, c, hm, hc0⟩ := markNodeS_v (N := 3000000) hf (by omega)
    rw [decide_eq_false hr, cond_false]
    have hd : F35 3000000 (upFrom 1 q.length) 1 = some (1 + (q.length : Int)) := heldIntS_v (by omega) (by omega) (by omega)
    simp only [toNodeS_v (N := 3000000) hf (by omega), andO_of, h1, h2, eqIntS_v (N := 3000000) (a := q) (b := q) (by omega) (by omega), decide_true, Bool.not_true, cond_false, eqNodeS_r (N := 3000000) hf (by omega), hm, dlt hc0,
      markIntS_v (N := 3000000) (a := q) (m := 1) (by omega) (by omega) (by omega), hd, dlt (show 0 ≤ 1 + (q.length : Int) by omega), bne_self_eq_false]
end Go.Proofs.Ytgpddckjpokclaa.Vc
