/- The laws on caches. -/
import Derived.Test.YtgpddckjpokclaaPuC
namespace Go.Proofs.Ytgpddckjpokclaa.Vc
open Go Go.RowKit
set_option linter.unusedVariables false
set_option linter.unusedSimpArgs false
theorem sNewCache_v (N : Nat) (n : Int) : F98 N n = some (if 1 ≤ n ∧ n ≤ 16 then ((n, ([], [])), true) else ((0, ([], [])), false)) := by
  unfold F98
  rw [l01In_v, andO_of]
  by_cases h : 1 ≤ n ∧ n ≤ 16 <;> simp [h]
theorem iNewCache_v (N : Nat) (n : Int) : F96 N n = some (if 1 ≤ n ∧ n ≤ 16 then ((n, ([], [])), true) else ((0, ([], [])), false)) := by
  unfold F96
  rw [isCap_v, andO_of]
  by_cases h : 1 ≤ n ∧ n ≤ 16 <;> simp [h]
/-- How many of these keys are there when they are asked for. -/
def hitsF : List Int → Ca → Int → Int
  | [], _, n => n
  | k :: l, c, n => if (getV c k).2.2 = true then hitsF l (getV c k).1 (n + 1) else hitsF l (putV c k 0).1 n
theorem sHits_l (N : Nat) (a : List Int) (hN : 1000 ≤ N) (hs : a.length ≤ 300) : ∀ (d k i : Nat) (c : Ca) (n : Int), i + d = a.length → d < k → Sz c N → 0 ≤ n → n ≤ i → F39_l0 N a k c.1 c.2.1 c.2.2 n (i : Int) = some (hitsF (a.drop i) c n) := by
  intro d
  induction d with
  | zero =>
    intro k i c n h hk hc h0 h1
    have hi : i = a.length := by omega
    subst hi
    rw [F39_l0_s _ _ (by omega), F39_l0_b]
    simp [F39_j0, hitsF]
  | succ d ih =>
    intro k i c n h hk hc h0 h1
    have hi : i < a.length := by omega
    rw [F39_l0_s _ _ (by omega), F39_l0_b, List.drop_eq_getElem_cons hi]
    simp only [show (i : Int) < (a.length : Int) by omega, decide_true, cond_true, gd_true (inR hi), Int.toNat_natCast, getD_at hi, sGet_v hc, andO_of, hitsF, sPut_v hc (show 100 ≤ N by omega), F39_j1]
    rw [w64 (x := n + 1) (by omega) (by omega), w64 (x := (i : Int) + 1) (by omega) (by omega), show ((i : Int) + 1) = ((i + 1 : Nat) : Int) by omega]
    cases hg : (getV c a[i]).2.2 with
    | true => simpa using ih (k - 1) (i + 1) (getV c a[i]).1 (n + 1) (by omega) (by omega) (getV_sz hc (by omega)) (by omega) (by omega)
    | false => simpa using ih (k - 1) (i + 1) (putV c a[i] 0).1 n (by omega) (by omega) (putV_sz hc (by omega)) (by omega) (by omega)

def hitsV (n : Int) (a : List Int) : Int := if (1 ≤ n ∧ n ≤ 16) ∧ a.length ≤ 300 then hitsF a (n, ([], [])) 0 else -1

theorem sHits_v {N : Nat} {n : Int} {a : List Int} (hN : 1000 ≤ N) : F39 N n a = some (hitsV n a) := by
  unfold F39 hitsV
  rw [sNewCache_v, andO_of]
  by_cases h : 1 ≤ n ∧ n ≤ 16
  · by_cases hl : a.length ≤ 300
    · have h2 := sHits_l N a hN hl a.length N 0 (n, ([], [])) 0 (by omega) (by omega) ⟨by simp; omega, by simp; omega, by simp, by simp⟩ (by omega) (by omega)
      simp only [h, and_self, if_true, Bool.not_true, cond_false, show ¬ (a.length : Int) > 300 by omega, decide_false, hl]
      simpa using h2
    · simp [h, hl, show (a.length : Int) > 300 by omega]
  · simp [h]
theorem iHits_l (N : Nat) (a : List Int) (hN : 1000 ≤ N) (hs : a.length ≤ 300) : ∀ (d k i : Nat) (c : Ca) (n : Int), i + d = a.length → d < k → Sz c N → 0 ≤ n → n ≤ i → F38_l0 N a k c.1 c.2.1 c.2.2 n (a.length : Int) (i : Int) = some (hitsF (a.drop i) c n) := by
  intro d
  induction d with
  | zero =>
    intro k i c n h hk hc h0 h1
    have hi : i = a.length := by omega
    subst hi
    rw [F38_l0_s _ _ (by omega), F38_l0_b]
    simp [F38_j0, hitsF]
  | succ d ih =>
    intro k i c n h hk hc h0 h1
    have hi : i < a.length := by omega
    rw [F38_l0_s _ _ (by omega), F38_l0_b, List.drop_eq_getElem_cons hi]
    simp only [show (i : Int) < (a.length : Int) by omega, decide_true, cond_true, gd_true (inR hi), Int.toNat_natCast, getD_at hi, iGet_v hc, andO_of, hitsF, iPut_v hc (show 100 ≤ N by omega), F38_j1]
    rw [w64 (x := n + 1) (by omega) (by omega), w64 (x := (i : Int) + 1) (by omega) (by omega), show ((i : Int) + 1) = ((i + 1 : Nat) : Int) by omega]
    cases hg : (getV c a[i]).2.2 with
    | true => simpa using ih (k - 1) (i + 1) (getV c a[i]).1 (n + 1) (by omega) (by omega) (getV_sz hc (by omega)) (by omega) (by omega)
    | false => simpa using ih (k - 1) (i + 1) (putV c a[i] 0).1 n (by omega) (by omega) (putV_sz hc (by omega)) (by omega) (by omega)

theorem iHits_v {N : Nat} {n : Int} {a : List Int} (hN : 1000 ≤ N) : F38 N n a = some (hitsV n a) := by
  unfold F38 hitsV
  rw [iNewCache_v, andO_of]
  by_cases h : 1 ≤ n ∧ n ≤ 16
  · by_cases hl : a.length ≤ 300
    · have h2 := iHits_l N a hN hl a.length N 0 (n, ([], [])) 0 (by omega) (by omega) ⟨by simp; omega, by simp; omega, by simp, by simp⟩ (by omega) (by omega)
      simp only [h, and_self, if_true, Bool.not_true, cond_false, show ¬ (a.length : Int) > 300 by omega, decide_false, hl]
      simpa using h2
    · simp [h, hl, show (a.length : Int) > 300 by omega]
  · simp [h]
/-- One op on a cache: the cache, and what is told. -/
def playOp (c : Ca) (x : Int) : Ca × Int :=
  if x < 0 then ((dropV c (-x - 1)).1, if (dropV c (-x - 1)).2 = true then 1 else 0)
  else if x.tmod 2 = 0 then ((getV c (x.tdiv 2)).1, if (getV c (x.tdiv 2)).2.2 = true then (getV c (x.tdiv 2)).2.1 else -1)
  else ((putV c (x.tdiv 2) x).1, if (putV c (x.tdiv 2) x).2.1 ≤ 1000000 then (putV c (x.tdiv 2) x).2.1 else -1)

def playF : List Int → Ca → List Int → Ca × List Int
  | [], c, o => (c, o)
  | x :: l, c, o => playF l (playOp c x).1 (o ++ [(playOp c x).2])

theorem playOp_sz {c : Ca} {x : Int} {N : Nat} (h : Sz c N) (hN : 100 ≤ N) : Sz (playOp c x).1 N := by
  unfold playOp
  split
  · exact dropV_sz h
  · split
    · exact getV_sz h hN
    · exact putV_sz h hN

theorem playF_len : ∀ (l : List Int) (c : Ca) (o : List Int), (playF l c o).2.length = o.length + l.length
  | [], c, o => rfl
  | x :: l, c, o => by
    simp only [playF, playF_len l, List.length_append, List.length_cons, List.length_nil]
    omega

theorem playF_sz {N : Nat} (hN : 100 ≤ N) : ∀ (l : List Int) (c : Ca) (o : List Int), Sz c N → Sz (playF l c o).1 N
  | [], c, o, h => h
  | x :: l, c, o, h => playF_sz hN l _ _ (playOp_sz h hN)

/-- What goes in a cache's last place is a key. -/
theorem putV_told {c : Ca} {k v : Int} : (putV c k v).2.1 = 1000001 ∨ (putV c k v).2.1 ≤ 1000000 := by
  unfold putV
  split
  · rename_i hc
    obtain ⟨e1, e2, e3, e4, e5⟩ := okC_len hc.1
    obtain ⟨f1, f2, f3⟩ := firstV_len (k := k) (v := v) hc.1
    split
    · exact .inl rfl
    · refine .inr ?_
      have hnum : ∀ (d i : Nat), okL c.2.1 c.2.2 d i = true → ∀ j, i ≤ j → j < i + d → Num (c.2.1.getD j 0) := by
        intro d
        induction d with
        | zero => intro i _ j h1 h2; omega
        | succ d ih =>
          intro i h j h1 h2
          simp only [okL, Bool.and_eq_true, decide_eq_true_eq] at h
          by_cases hj : j = i
          · subst hj; exact h.1.1.1
          · exact ih (i + 1) h.2 j (by omega) (by omega)
      have hok : okL c.2.1 c.2.2 c.2.1.length 0 = true := by
        have := hc.1
        simp only [okC, Bool.and_eq_true] at this
        exact this.2
      have hm : ∀ y ∈ (firstV c k v).2.1, y ≤ 1000000 := by
        intro y hy
        simp only [firstV, List.mem_cons] at hy
        rcases hy with rfl | hy
        · exact hc.2.1.2
        · have : y ∈ c.2.1 := by
            unfold rmv at hy
            split at hy
            · exact hy
            · rcases List.mem_append.1 hy with h | h
              · exact List.mem_of_mem_take h
              · exact List.mem_of_mem_drop h
          obtain ⟨j, hj, rfl⟩ := List.getElem_of_mem this
          have := (hnum c.2.1.length 0 hok j (by omega) (by omega)).2
          rwa [getD_at hj] at this
      have hlt : c.1.toNat < (firstV c k v).2.1.length := by omega
      simp only
      rw [getD_at hlt]
      exact hm _ (List.getElem_mem hlt)
  · exact .inl rfl
end Go.Proofs.Ytgpddckjpokclaa.Vc
