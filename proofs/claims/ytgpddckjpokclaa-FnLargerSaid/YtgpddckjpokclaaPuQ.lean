/- Draws: what the cursor gives. A cache that is as it should be, step by step; a greater cache hits whenever a smaller one does. -/
import Derived.Test.YtgpddckjpokclaaPuK
namespace Go.Proofs.Ytgpddckjpokclaa.Vc
open Go Go.RowKit
set_option linter.unusedVariables false
set_option linter.unusedSimpArgs false

abbrev Cur := List Int × (Int × Int)

/-- A cursor that stands within its bytes. -/
def CurOk (c : Cur) : Prop := 0 ≤ c.2.1 ∧ c.2.1 ≤ c.1.length ∧ c.1.length ≤ 2000000

theorem and255 (x : BitVec 64) : 0 ≤ IntKind.i64.wrap (((x &&& BitVec.ofInt 64 (255 : Int)).toNat : Nat) : Int) ∧ IntKind.i64.wrap (((x &&& BitVec.ofInt 64 (255 : Int)).toNat : Nat) : Int) ≤ 255 := by
  have h : (x &&& BitVec.ofInt 64 (255 : Int)).toNat ≤ 255 := by
    rw [BitVec.toNat_and]
    exact Nat.le_trans Nat.and_le_right (by decide)
  rw [w64 (by omega) (by omega)]
  omega
theorem l01Byte_v (N : Nat) {c : Cur} (hc : CurOk c) : ∃ c' x, F151 N c = some (c', x) ∧ CurOk c' ∧ 0 ≤ x ∧ x ≤ 255 := by
  obtain ⟨h1, h2, h3⟩ := hc
  unfold F151 F151_j0
  by_cases h : c.2.1 < (c.1.length : Int)
  · rw [decide_eq_true h, cond_true, gd_true ⟨h1, h⟩, w64 (x := c.2.1 + 1) (by omega) (by omega)]
    exact ⟨_, _, rfl, ⟨by show 0 ≤ c.2.1 + 1; omega, by show c.2.1 + 1 ≤ (c.1.length : Int); omega, h3⟩, (and255 _).1, (and255 _).2⟩
  · rw [decide_eq_false h, cond_false]
    exact ⟨_, _, rfl, ⟨h1, h2, h3⟩, (and255 _).1, (and255 _).2⟩
theorem l01Below_v (N : Nat) {c : Cur} (hc : CurOk c) {n : Int} (hn : n ≤ 256) : ∃ c' x, F92 N c n = some (c', x) ∧ CurOk c' ∧ 0 ≤ x ∧ (0 < n → x < n) ∧ x ≤ 255 := by
  unfold F92
  by_cases h : n ≤ 0
  · rw [decide_eq_true h, cond_true]
    exact ⟨_, _, rfl, hc, by omega, fun _ => by omega, by omega⟩
  · obtain ⟨c', x, e1, e2, e3, e4⟩ := l01Byte_v N hc
    rw [decide_eq_false h, cond_false, decide_eq_true hn, cond_true, e1, andO_of, gd_true (by omega)]
    have ht : Int.tmod x n = x % n := Int.tmod_eq_emod_of_nonneg e3
    have hp := Int.emod_nonneg x (show n ≠ 0 by omega)
    have hl := Int.emod_lt_of_pos x (show 0 < n by omega)
    refine ⟨_, _, rfl, e2, by rw [ht]; exact hp, fun _ => by rw [ht]; exact hl, by rw [ht]; omega⟩
theorem l01Once_v (N : Nat) {c : Cur} (hc : CurOk c) {n : Int} (hn : n ≤ 256) : ∃ c' b, F94 N c n = some (c', b) ∧ CurOk c' := by
  obtain ⟨c', x, e1, e2, _⟩ := l01Below_v N hc hn
  unfold F94
  rw [e1, andO_of]
  exact ⟨_, _, rfl, e2⟩
theorem l01PickInt_v (N : Nat) {c : Cur} (hc : CurOk c) {l : List Int} (h0 : l ≠ []) (hl : l.length ≤ 256) : ∃ c' x, F95 N c l = some (c', x) ∧ CurOk c' ∧ x ∈ l := by
  have hp : 0 < l.length := List.length_pos_iff.2 h0
  obtain ⟨c', x, e1, e2, e3, e4, _⟩ := l01Below_v N hc (n := (l.length : Int)) (by omega)
  have hx := e4 (by omega)
  unfold F95
  rw [e1, andO_of, gd_true ⟨e3, hx⟩]
  refine ⟨_, _, rfl, e2, ?_⟩
  rw [getD_at (show x.toNat < l.length by omega)]
  exact List.getElem_mem _
theorem l01New_l (N : Nat) (a : List Int) (hs : a.length ≤ 2000000) : ∀ (d k i : Nat) (x : Int), i + d = a.length → d < k → ∃ h, F91_l0 N a k x (i : Int) = some (a, (0, h)) := by
  intro d
  induction d with
  | zero =>
    intro k i x h hk
    rw [F91_l0_s _ _ (by omega), F91_l0_b]
    simp only [show ¬ (i : Int) < (a.length : Int) by omega, decide_false, cond_false, F91_j0]
    exact ⟨_, rfl⟩
  | succ d ih =>
    intro k i x h hk
    have hi : i < a.length := by omega
    rw [F91_l0_s _ _ (by omega), F91_l0_b]
    simp only [show (i : Int) < (a.length : Int) by omega, decide_true, cond_true, gd_true (inR hi)]
    by_cases h4 : (i : Int) < 4000
    · rw [decide_eq_true h4, cond_true, w64 (x := (i : Int) + 1) (by omega) (by omega), show ((i : Int) + 1) = ((i + 1 : Nat) : Int) by omega]
      exact ih (k - 1) (i + 1) _ (by omega) (by omega)
    · rw [decide_eq_false h4, cond_false, F91_j0]
      exact ⟨_, rfl⟩

theorem l01New_v {N : Nat} {a : List Int} (hs : a.length ≤ 2000000) (hN : 2000000 < N) : ∃ c, F91 N a = some c ∧ CurOk c := by
  unfold F91
  obtain ⟨h, e⟩ := l01New_l N a hs a.length N 0 (IntKind.i64.wrap ((844844 : Int) + (a.length : Int))) (by omega) (by omega)
  exact ⟨_, e, by show (0 : Int) ≤ 0; omega, by show (0 : Int) ≤ _; omega, hs⟩
theorem l01Size_v (N : Nat) {a : List Int} (hs : a.length ≤ 2000000) {m : Int} (h0 : 0 ≤ m) (hm : m ≤ 256) : ∃ r, F93 N a m = some r ∧ 0 ≤ r ∧ r ≤ m := by
  unfold F93
  have ht : Int.tdiv (a.length : Int) 16 = (a.length : Int) / 16 := Int.tdiv_eq_ediv_of_nonneg (by omega)
  rw [ht, w64 (x := (a.length : Int) / 16) (by omega) (by omega), w64 (by omega) (by omega)]
  by_cases h : 2 + (a.length : Int) / 16 > m
  · rw [decide_eq_true h]
    exact ⟨_, rfl, h0, Int.le_refl _⟩
  · rw [decide_eq_false h]
    exact ⟨_, rfl, by omega, by omega⟩
theorem drawHits_l (N : Nat) (n : Int) (hn : n ≤ 400) : ∀ (d k : Nat) (i : Nat) (c : Cur) (keys : List Int), CurOk c → keys.length = i → (i : Int) + d = n → d < k →
    ∃ z ks, F37_l0 N n k c.1 c.2.1 c.2.2 keys (i : Int) = some (z, ks) := by
  intro d
  have hlim := lim_i64
  induction d with
  | zero =>
    intro k i c keys hc hk h hd
    rw [F37_l0_s _ _ (by omega), F37_l0_b]
    simp only [show ¬ (i : Int) < n by omega, decide_false, cond_false, F37_j0]
    obtain ⟨c', x, e1, e2, _⟩ := l01PickInt_v N hc (l := [(1 : Int), (2 : Int), (3 : Int), (5 : Int), (16 : Int), (17 : Int), (0 : Int)]) (by simp) (by simp)
    rw [show (c.1, (c.2.1, c.2.2)) = c from rfl, e1, andO_of]
    exact ⟨_, _, rfl⟩
  | succ d ih =>
    intro k i c keys hc hk h hd
    rw [F37_l0_s _ _ (by omega), F37_l0_b]
    obtain ⟨c1, x, e1, e2, _⟩ := l01Below_v N hc (n := 8) (by omega)
    obtain ⟨c2, b, f1, f2⟩ := l01Once_v N e2 (n := 60) (by omega)
    simp only [show (i : Int) < n by omega, decide_true, cond_true, F37_j1]
    rw [show (c.1, (c.2.1, c.2.2)) = c from rfl, e1, andO_of, gd_true (by simp; omega), f1, andO_of, w64 (x := (i : Int) + 1) (by omega) (by omega), show ((i : Int) + 1) = ((i + 1 : Nat) : Int) by omega]
    cases b with
    | false => exact ih (k - 1) (i + 1) c2 (keys ++ [x]) f2 (by simp; omega) (by omega) (by omega)
    | true =>
      have hi : i < (keys ++ [x]).length := by simp; omega
      simp only [cond_true]
      rw [gd_true (inR hi), gd_true (by simpa using hi)]
      exact ih (k - 1) (i + 1) c2 _ f2 (by simp; omega) (by omega) (by omega)

theorem drawHits_v {N : Nat} {a : List Int} (hs : a.length ≤ 2000000) (hN : 2000000 < N) : ∃ z ks, F37 N a = some (z, ks) := by
  unfold F37
  obtain ⟨c, e1, hc⟩ := l01New_v hs hN
  obtain ⟨r, e2, r0, r1⟩ := l01Size_v N hs (m := 50) (by omega) (by omega)
  obtain ⟨c1, x, e3, hc1, x0, _, x2⟩ := l01Below_v N hc (n := r) (by omega)
  obtain ⟨c2, b, e4, hc2⟩ := l01Once_v N hc1 (n := 40) (by omega)
  rw [e1, andO_of, e2, andO_of, e3, andO_of, e4, andO_of]
  cases b with
  | false =>
    simp only [cond_false, F37_j2]
    exact drawHits_l N x (by omega) x.toNat N 0 c2 [] hc2 rfl (by omega) (by omega)
  | true =>
    obtain ⟨c3, y, e5, hc3, y0, y1, _⟩ := l01Below_v N hc2 (n := 2) (by omega)
    have y2 := y1 (by omega)
    simp only [cond_true, F37_j2]
    rw [e5, andO_of, w64 (by omega) (by omega)]
    exact drawHits_l N (300 + y) (by omega) (300 + y).toNat N 0 c3 [] hc3 rfl (by omega) (by omega)
/-- A cache of few pairs. -/
def Few (n : Nat) (c : Ca) : Prop := c.2.1.length ≤ n ∧ c.2.2.length ≤ n

theorem Few.sz {c : Ca} {N n : Nat} (h : Few n c) (hn : n ≤ 100) (hN : 1000 ≤ N) : Sz c N := ⟨by have := h.1; omega, by have := h.2; omega, by have := h.1; omega, by have := h.2; omega⟩

theorem Few.get {c : Ca} {k : Int} (h : Few 17 c) : Few 17 (getV c k).1 := by
  unfold getV
  split
  · rename_i hc
    obtain ⟨e1, e2, _⟩ := okC_len hc.1
    obtain ⟨f1, f2, f3⟩ := firstV_len (k := k) (v := c.2.2.getD (idx k c.2.1).toNat 0) hc.1
    show (firstV c k (c.2.2.getD (idx k c.2.1).toNat 0)).2.1.length ≤ 17 ∧ (firstV c k (c.2.2.getD (idx k c.2.1).toNat 0)).2.2.length ≤ 17
    omega
  · exact h

theorem Few.put {c : Ca} {k v : Int} (h : Few 17 c) : Few 17 (putV c k v).1 := by
  unfold putV
  split
  · rename_i hc
    obtain ⟨e1, e2, _⟩ := okC_len hc.1
    obtain ⟨f1, f2, f3⟩ := firstV_len (k := k) (v := v) hc.1
    split
    · show (firstV c k v).2.1.length ≤ 17 ∧ (firstV c k v).2.2.length ≤ 17
      omega
    · have l1 := rmv_length c.1 (firstV c k v).2.1
      have l2 := rmv_length c.1 (firstV c k v).2.2
      exact ⟨by show (rmv _ _).length ≤ 17; omega, by show (rmv _ _).length ≤ 17; omega⟩
  · exact h

theorem Few.drop {c : Ca} {k : Int} (h : Few 17 c) : Few 17 (dropV c k).1 := by
  unfold dropV
  split
  · have l1 := rmv_length (idx k c.2.1) c.2.1
    have l2 := rmv_length (idx k c.2.1) c.2.2
    obtain ⟨a1, a2⟩ := h
    exact ⟨by show (rmv _ _).length ≤ 17; omega, by show (rmv _ _).length ≤ 17; omega⟩
  · exact h
theorem drawCache_j {N : Nat} (hN : 1000 ≤ N) {c : Cur} (hc : CurOk c) {x : Ca} (hx : Few 17 x) : ∃ c' x', F101_j1 N c.1 c.2.1 c.2.2 x.1 x.2.1 x.2.2 = some (c', x') ∧ CurOk c' ∧ Few 18 x' := by
  have hlim := lim_i64
  obtain ⟨hx1, hx2⟩ := hx
  have g1 : x.2.1.length ≤ 18 := by omega
  have g2 : x.2.2.length ≤ 18 := by omega
  unfold F101_j1
  obtain ⟨c1, b, e1, h1⟩ := l01Once_v N hc (n := 10) (by omega)
  rw [show (c.1, (c.2.1, c.2.2)) = c from rfl, e1, andO_of]
  cases b with
  | false => exact ⟨_, _, rfl, h1, g1, g2⟩
  | true =>
    obtain ⟨c2, y, e2, h2, _⟩ := l01Below_v N h1 (n := 4) (by omega)
    simp only [cond_true]
    rw [e2, andO_of]
    cases (y == 0) with
    | true =>
      obtain ⟨c3, z, e3, h3, _⟩ := l01PickInt_v N h2 (l := [(0 : Int), (16 : Int), (17 : Int), (1 : Int)]) (by simp) (by simp)
      simp only [cond_true]
      rw [e3, andO_of]
      exact ⟨_, _, rfl, h3, g1, g2⟩
    | false =>
      simp only [cond_false]
      cases (y == 1) with
      | true =>
        simp only [cond_true]
        rw [gd_true (by simp; omega)]
        exact ⟨_, _, rfl, h2, by simp; omega, g2⟩
      | false =>
        simp only [cond_false]
        cases (y == 2) with
        | true =>
          simp only [cond_true]
          rw [gd_true (by simp; omega), gd_true (by simp; omega)]
          exact ⟨_, _, rfl, h2, by simp; omega, by simp; omega⟩
        | false =>
          simp only [cond_false]
          cases (y == 3) with
          | true => exact ⟨_, _, rfl, h2, by simp, g2⟩
          | false => exact ⟨_, _, rfl, h2, g1, g2⟩

theorem drawCache_l (N : Nat) (hN : 1000 ≤ N) : ∀ (d k : Nat) (c : Cur) (x : Ca), CurOk c → Few 17 x → d < k → d ≤ 300 → ∃ c' x', F101_l0 N k c.1 c.2.1 c.2.2 x.1 x.2.1 x.2.2 (d : Int) = some (c', x') ∧ CurOk c' ∧ Few 18 x' := by
  intro d
  induction d with
  | zero =>
    intro k c x hc hx hk hd
    rw [F101_l0_s _ (by omega), F101_l0_b]
    simp only [show ¬ ((0 : Nat) : Int) > 0 by omega, decide_false, cond_false]
    exact drawCache_j hN hc hx
  | succ d ih =>
    intro k c x hc hx hk hd
    rw [F101_l0_s _ (by omega), F101_l0_b]
    simp only [show ((d + 1 : Nat) : Int) > 0 by omega, decide_true, cond_true, F101_j2]
    rw [w64 (x := ((d + 1 : Nat) : Int) - 1) (by omega) (by omega), show ((d + 1 : Nat) : Int) - 1 = (d : Int) by omega]
    obtain ⟨c1, y, e1, h1, _⟩ := l01Below_v N hc (n := 4) (by omega)
    rw [show (c.1, (c.2.1, c.2.2)) = c from rfl, show (x.1, (x.2.1, x.2.2)) = x from rfl, e1, andO_of]
    obtain ⟨c2, z, e2, h2, _⟩ := l01Below_v N h1 (n := 8) (by omega)
    cases (y == 0) with
    | true =>
      simp only [cond_true]
      rw [e2, andO_of, sGet_v (hx.sz (by omega) hN), andO_of]
      exact ih (k - 1) c2 (getV x z).1 h2 hx.get (by omega) (by omega)
    | false =>
      simp only [cond_false]
      cases (y == 1) with
      | true =>
        simp only [cond_true]
        rw [e2, andO_of, sDrop_v (hx.sz (by omega) hN), andO_of]
        exact ih (k - 1) c2 (dropV x z).1 h2 hx.drop (by omega) (by omega)
      | false =>
        obtain ⟨c3, v, e3, h3, _⟩ := l01Below_v N h2 (n := 50) (by omega)
        simp only [cond_false]
        rw [e2, andO_of, e3, andO_of, sPut_v (hx.sz (by omega) hN) (by omega), andO_of]
        exact ih (k - 1) c3 (putV x z v).1 h3 hx.put (by omega) (by omega)

theorem drawCache_v {N : Nat} (hN : 1000 ≤ N) {c : Cur} (hc : CurOk c) : ∃ c' x', F101 N c = some (c', x') ∧ CurOk c' ∧ Few 18 x' := by
  unfold F101
  obtain ⟨c1, y, e1, h1, y0, y1, y2⟩ := l01Below_v N hc (n := 5) (by omega)
  obtain ⟨c2, z, e2, h2, z0, z1, z2⟩ := l01Below_v N h1 (n := 12) (by omega)
  have z3 := z1 (by omega)
  rw [e1, andO_of, sNewCache_v, andO_of, e2, andO_of]
  have hf : ∀ n : Int, Few 17 (if 1 ≤ n ∧ n ≤ 16 then ((n, ([], [])), true) else ((0, ([], [])), false) : Ca × Bool).1 := by
    intro n
    split <;> exact ⟨by simp, by simp⟩
  have := drawCache_l N hN z.toNat N c2 _ h2 (hf (IntKind.i64.wrap (1 + y))) (by omega) (by omega)
  rw [show ((z.toNat : Nat) : Int) = z by omega] at this
  exact this
theorem drawResize_v {N : Nat} {a : List Int} (hs : a.length ≤ 2000000) (hN : 2000000 < N) : ∃ x n, F40 N a = some (x, n) ∧ Few 18 x := by
  unfold F40
  obtain ⟨c, e1, hc⟩ := l01New_v hs hN
  obtain ⟨c1, x, e2, h1, hx⟩ := drawCache_v (N := N) (by omega) hc
  obtain ⟨c2, z, e3, h2, _⟩ := l01PickInt_v N h1 (l := [(1 : Int), (2 : Int), (3 : Int), (16 : Int), (17 : Int), (0 : Int)]) (by simp) (by simp)
  rw [e1, andO_of, e2, andO_of, e3, andO_of]
  exact ⟨_, _, rfl, hx⟩
theorem alt_l (N : Nat) (a : List Int) (hs : a.length ≤ 1048576) : ∀ (d k i : Nat) (u : List Int), i + d = a.length → d < k → u.length ≤ i + 1 → i ≤ 3000 → ∃ r : List Int, F41_l0 N a k u (i : Int) = some r ∧ r.length ≤ 2000000 := by
  intro d
  have hlim := lim_u8
  induction d with
  | zero =>
    intro k i u h hk hu h3
    rw [F41_l0_s _ _ (by omega), F41_l0_b]
    simp only [show ¬ (i : Int) < (a.length : Int) by omega, decide_false, cond_false, F41_j0]
    exact ⟨_, rfl, by omega⟩
  | succ d ih =>
    intro k i u h hk hu h3
    have hi : i < a.length := by omega
    rw [F41_l0_s _ _ (by omega), F41_l0_b]
    simp only [show (i : Int) < (a.length : Int) by omega, decide_true, cond_true, gd_true (inR hi), F41_j0]
    by_cases h4 : (i : Int) < 3000
    · rw [decide_eq_true h4, cond_true, gd_true (by simp; omega), w64 (x := (i : Int) + 1) (by omega) (by omega), show ((i : Int) + 1) = ((i + 1 : Nat) : Int) by omega]
      exact ih (k - 1) (i + 1) _ (by omega) (by omega) (by simp; omega) (by omega)
    · rw [decide_eq_false h4, cond_false]
      exact ⟨_, rfl, by omega⟩

theorem alt_v {N : Nat} {a : List Int} (k : Int) (hs : a.length ≤ 1048576) (hN : 2000000 < N) : ∃ r : List Int, F41 N a k = some r ∧ r.length ≤ 2000000 := by
  unfold F41
  exact alt_l N a hs a.length N 0 _ (by omega) (by omega) (by simp) (by omega)
theorem same_r {N : Nat} {a : List Int} (hs : a.length < N) (h2 : a.length ≤ 2000000) : F44 N a a = some true := by
  have key : ∀ (d k i : Nat), i + d = a.length → d < k → F44_l0 N a a k (i : Int) = some true := by
    intro d
    induction d with
    | zero =>
      intro k i h hk
      rw [F44_l0_s _ _ _ (by omega), F44_l0_b]
      simp only [show ¬ (i : Int) < (a.length : Int) by omega, decide_false, cond_false, F44_j0]
    | succ d ih =>
      intro k i h hk
      have hi : i < a.length := by omega
      rw [F44_l0_s _ _ _ (by omega), F44_l0_b]
      simp only [show (i : Int) < (a.length : Int) by omega, decide_true, cond_true, gd_true (inR hi), bne_self_eq_false, cond_false]
      rw [w64 (by omega) (by omega), show ((i : Int) + 1) = ((i + 1 : Nat) : Int) by omega]
      exact ih (k - 1) (i + 1) (by omega) (by omega)
  unfold F44
  simp only [bne_self_eq_false, cond_false]
  exact key a.length N 0 (by omega) (by omega)
end Go.Proofs.Ytgpddckjpokclaa.Vc
