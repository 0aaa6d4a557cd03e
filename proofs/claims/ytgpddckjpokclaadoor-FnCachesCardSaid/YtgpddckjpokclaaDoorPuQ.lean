/- Draws: what the cursor gives. A cache that is as it should be, step by step; a greater cache hits whenever a smaller one does. -/
import Derived.Test.YtgpddckjpokclaaDoorPuK
namespace Go.Proofs.YtgpddckjpokclaaDoor.Vc
open Go Go.RowKit
set_option linter.unusedVariables false
set_option linter.unusedSimpArgs false

abbrev Cur := List Int × (Int × Int)

/-- A cursor that stands within its bytes. -/
def CurOk (c : Cur) : Prop := 0 ≤ c.2.1 ∧ c.2.1 ≤ c.1.length ∧ c.1.length ≤ 2000000

theorem and255 (x : BitVec 64) : 0 ≤ IntKind.i64.wrap (((x &&& BitVec.ofInt 64 (255 : Int)).toNat : Nat) : Int) ∧ IntKind.i64.wrap (((x &&& BitVec.ofInt 64 (255 : Int)).toNat : Nat) : Int) ≤ 255 := by
  have h : (x &&& BitVec.ofInt 64 (255 : Int)).toNat ≤ 255 := by
    rw [BitVec.toNat_and]
    exact Nat.le_trans Nat.and_le_right (by decide)
  rw [w64 (by omega) (by omega)]
  omega
theorem l01Byte_v (N : Nat) {c : Cur} (hc : CurOk c) : ∃ c' x, F53 N c = some (c', x) ∧ CurOk c' ∧ 0 ≤ x ∧ x ≤ 255 := by
  obtain ⟨h1, h2, h3⟩ := hc
  unfold F53 F53_j0
  by_cases h : c.2.1 < (c.1.length : Int)
  · rw [decide_eq_true h, cond_true, gd_true ⟨h1, h⟩, w64 (x := c.2.1 + 1) (by omega) (by omega)]
    exact ⟨_, _, rfl, ⟨by show 0 ≤ c.2.1 + 1; omega, by show c.2.1 + 1 ≤ (c.1.length : Int); omega, h3⟩, (and255 _).1, (and255 _).2⟩
  · rw [decide_eq_false h, cond_false]
    exact ⟨_, _, rfl, ⟨h1, h2, h3⟩, (and255 _).1, (and255 _).2⟩
theorem l01Below_v (N : Nat) {c : Cur} (hc : CurOk c) {n : Int} (hn : n ≤ 256) : ∃ c' x, F29 N c n = some (c', x) ∧ CurOk c' ∧ 0 ≤ x ∧ (0 < n → x < n) ∧ x ≤ 255 := by
  unfold F29
  by_cases h : n ≤ 0
  · rw [decide_eq_true h, cond_true]
    exact ⟨_, _, rfl, hc, by omega, fun _ => by omega, by omega⟩
  · obtain ⟨c', x, e1, e2, e3, e4⟩ := l01Byte_v N hc
    rw [decide_eq_false h, cond_false, decide_eq_true hn, cond_true, e1, andO_of, gd_true (by omega)]
    have ht : Int.tmod x n = x % n := Int.tmod_eq_emod_of_nonneg e3
    have hp := Int.emod_nonneg x (show n ≠ 0 by omega)
    have hl := Int.emod_lt_of_pos x (show 0 < n by omega)
    refine ⟨_, _, rfl, e2, by rw [ht]; exact hp, fun _ => by rw [ht]; exact hl, by rw [ht]; omega⟩
theorem l01Once_v (N : Nat) {c : Cur} (hc : CurOk c) {n : Int} (hn : n ≤ 256) : ∃ c' b, F31 N c n = some (c', b) ∧ CurOk c' := by
  obtain ⟨c', x, e1, e2, _⟩ := l01Below_v N hc hn
  unfold F31
  rw [e1, andO_of]
  exact ⟨_, _, rfl, e2⟩
theorem l01PickInt_v (N : Nat) {c : Cur} (hc : CurOk c) {l : List Int} (h0 : l ≠ []) (hl : l.length ≤ 256) : ∃ c' x, F32 N c l = some (c', x) ∧ CurOk c' ∧ x ∈ l := by
  have hp : 0 < l.length := List.length_pos_iff.2 h0
  obtain ⟨c', x, e1, e2, e3, e4, _⟩ := l01Below_v N hc (n := (l.length : Int)) (by omega)
  have hx := e4 (by omega)
  unfold F32
  rw [e1, andO_of, gd_true ⟨e3, hx⟩]
  refine ⟨_, _, rfl, e2, ?_⟩
  rw [getD_at (show x.toNat < l.length by omega)]
  exact List.getElem_mem _
theorem l01New_l (N : Nat) (a : List Int) (hs : a.length ≤ 2000000) : ∀ (d k i : Nat) (x : Int), i + d = a.length → d < k → ∃ h, F28_l0 N a k x (i : Int) = some (a, (0, h)) := by
  intro d
  induction d with
  | zero =>
    intro k i x h hk
    rw [F28_l0_s _ _ (by omega), F28_l0_b]
    simp only [show ¬ (i : Int) < (a.length : Int) by omega, decide_false, cond_false, F28_j0]
    exact ⟨_, rfl⟩
  | succ d ih =>
    intro k i x h hk
    have hi : i < a.length := by omega
    rw [F28_l0_s _ _ (by omega), F28_l0_b]
    simp only [show (i : Int) < (a.length : Int) by omega, decide_true, cond_true, gd_true (inR hi)]
    by_cases h4 : (i : Int) < 4000
    · rw [decide_eq_true h4, cond_true, w64 (x := (i : Int) + 1) (by omega) (by omega), show ((i : Int) + 1) = ((i + 1 : Nat) : Int) by omega]
      exact ih (k - 1) (i + 1) _ (by omega) (by omega)
    · rw [decide_eq_false h4, cond_false, F28_j0]
      exact ⟨_, rfl⟩

theorem l01New_v {N : Nat} {a : List Int} (hs : a.length ≤ 2000000) (hN : 2000000 < N) : ∃ c, F28 N a = some c ∧ CurOk c := by
  unfold F28
  obtain ⟨h, e⟩ := l01New_l N a hs a.length N 0 (IntKind.i64.wrap ((844844 : Int) + (a.length : Int))) (by omega) (by omega)
  exact ⟨_, e, by show (0 : Int) ≤ 0; omega, by show (0 : Int) ≤ _; omega, hs⟩
theorem l01Size_v (N : Nat) {a : List Int} (hs : a.length ≤ 2000000) {m : Int} (h0 : 0 ≤ m) (hm : m ≤ 256) : ∃ r, F30 N a m = some r ∧ 0 ≤ r ∧ r ≤ m := by
  unfold F30
  have ht : Int.tdiv (a.length : Int) 16 = (a.length : Int) / 16 := Int.tdiv_eq_ediv_of_nonneg (by omega)
  rw [ht, w64 (x := (a.length : Int) / 16) (by omega) (by omega), w64 (by omega) (by omega)]
  by_cases h : 2 + (a.length : Int) / 16 > m
  · rw [decide_eq_true h]
    exact ⟨_, rfl, h0, Int.le_refl _⟩
  · rw [decide_eq_false h]
    exact ⟨_, rfl, by omega, by omega⟩
/-- A cache of few pairs. -/
def Few (n : Nat) (c : Ca) : Prop := c.2.1.length ≤ n ∧ c.2.2.length ≤ n

theorem Few.sz {c : Ca} {N n : Nat} (h : Few n c) (hn : n ≤ 100) (hN : 1000 ≤ N) : Sz c N := ⟨by have := h.1; omega, by have := h.2; omega, by have := h.1; omega, by have := h.2; omega⟩

theorem Few.get {c : Ca} {k : Int} (h : Few 17 c) : Few 17 (getV c k).1 := by
  unfold getV
  split
  · rename_i hc
    obtain ⟨e1, e2, _⟩ := okC_len hc.1
    obtain ⟨f1, f2, f3⟩ := firstV_len (k := k) (v := c.2.2.getD (idx k c.2.1).toNat 0) hc.1
    show (firstV c k (c.2.2.getD (idx k c.2.1).toNat 0)).2.1.length ≤ 17 ∧ (firstV c k (c.2.2.getD (idx k c.2.1).toNat 0)).2.2.length ≤ 17
    omega
  · exact h

theorem Few.put {c : Ca} {k v : Int} (h : Few 17 c) : Few 17 (putV c k v).1 := by
  unfold putV
  split
  · rename_i hc
    obtain ⟨e1, e2, _⟩ := okC_len hc.1
    obtain ⟨f1, f2, f3⟩ := firstV_len (k := k) (v := v) hc.1
    split
    · show (firstV c k v).2.1.length ≤ 17 ∧ (firstV c k v).2.2.length ≤ 17
      omega
    · have l1 := rmv_length c.1 (firstV c k v).2.1
      have l2 := rmv_length c.1 (firstV c k v).2.2
      exact ⟨by show (rmv _ _).length ≤ 17; omega, by show (rmv _ _).length ≤ 17; omega⟩
  · exact h

theorem Few.drop {c : Ca} {k : Int} (h : Few 17 c) : Few 17 (dropV c k).1 := by
  unfold dropV
  split
  · have l1 := rmv_length (idx k c.2.1) c.2.1
    have l2 := rmv_length (idx k c.2.1) c.2.2
    obtain ⟨a1, a2⟩ := h
    exact ⟨by show (rmv _ _).length ≤ 17; omega, by show (rmv _ _).length ≤ 17; omega⟩
  · exact h
theorem same_r {N : Nat} {a : List Int} (hs : a.length < N) (h2 : a.length ≤ 2000000) : F11 N a a = some true := by
  have key : ∀ (d k i : Nat), i + d = a.length → d < k → F11_l0 N a a k (i : Int) = some true := by
    intro d
    induction d with
    | zero =>
      intro k i h hk
      rw [F11_l0_s _ _ _ (by omega), F11_l0_b]
      simp only [show ¬ (i : Int) < (a.length : Int) by omega, decide_false, cond_false, F11_j0]
    | succ d ih =>
      intro k i h hk
      have hi : i < a.length := by omega
      rw [F11_l0_s _ _ _ (by omega), F11_l0_b]
      simp only [show (i : Int) < (a.length : Int) by omega, decide_true, cond_true, gd_true (inR hi), bne_self_eq_false, cond_false]
      rw [w64 (by omega) (by omega), show ((i : Int) + 1) = ((i + 1 : Nat) : Int) by omega]
      exact ih (k - 1) (i + 1) (by omega) (by omega)
  unfold F11
  simp only [bne_self_eq_false, cond_false]
  exact key a.length N 0 (by omega) (by omega)
end Go.Proofs.YtgpddckjpokclaaDoor.Vc
