/- The laws on caches. -/
import Derived.Test.YtgpddckjpokclaaDoorPuC
namespace Go.Proofs.YtgpddckjpokclaaDoor.Vc
open Go Go.RowKit
set_option linter.unusedVariables false
set_option linter.unusedSimpArgs false
theorem sNewCache_v (N : Nat) (n : Int) : F33 N n = some (if 1 ≤ n ∧ n ≤ 16 then ((n, ([], [])), true) else ((0, ([], [])), false)) := by
  unfold F33
  rw [l01In_v, andO_of]
  by_cases h : 1 ≤ n ∧ n ≤ 16 <;> simp [h]
theorem iNewCache_v (N : Nat) (n : Int) : F37 N n = some (if 1 ≤ n ∧ n ≤ 16 then ((n, ([], [])), true) else ((0, ([], [])), false)) := by
  unfold F37
  rw [isCap_v, andO_of]
  by_cases h : 1 ≤ n ∧ n ≤ 16 <;> simp [h]
/-- How many of these keys are there when they are asked for. -/
def hitsF : List Int → Ca → Int → Int
  | [], _, n => n
  | k :: l, c, n => if (getV c k).2.2 = true then hitsF l (getV c k).1 (n + 1) else hitsF l (putV c k 0).1 n
/-- One op on a cache: the cache, and what is told. -/
def playOp (c : Ca) (x : Int) : Ca × Int :=
  if x < 0 then ((dropV c (-x - 1)).1, if (dropV c (-x - 1)).2 = true then 1 else 0)
  else if x.tmod 2 = 0 then ((getV c (x.tdiv 2)).1, if (getV c (x.tdiv 2)).2.2 = true then (getV c (x.tdiv 2)).2.1 else -1)
  else ((putV c (x.tdiv 2) x).1, if (putV c (x.tdiv 2) x).2.1 ≤ 1000000 then (putV c (x.tdiv 2) x).2.1 else -1)

def playF : List Int → Ca → List Int → Ca × List Int
  | [], c, o => (c, o)
  | x :: l, c, o => playF l (playOp c x).1 (o ++ [(playOp c x).2])

theorem playOp_sz {c : Ca} {x : Int} {N : Nat} (h : Sz c N) (hN : 100 ≤ N) : Sz (playOp c x).1 N := by
  unfold playOp
  split
  · exact dropV_sz h
  · split
    · exact getV_sz h hN
    · exact putV_sz h hN

theorem playF_len : ∀ (l : List Int) (c : Ca) (o : List Int), (playF l c o).2.length = o.length + l.length
  | [], c, o => rfl
  | x :: l, c, o => by
    simp only [playF, playF_len l, List.length_append, List.length_cons, List.length_nil]
    omega

theorem playF_sz {N : Nat} (hN : 100 ≤ N) : ∀ (l : List Int) (c : Ca) (o : List Int), Sz c N → Sz (playF l c o).1 N
  | [], c, o, h => h
  | x :: l, c, o, h => playF_sz hN l _ _ (playOp_sz h hN)

/-- What goes in a cache's last place is a key. -/
theorem putV_told {c : Ca} {k v : Int} : (putV c k v).2.1 = 1000001 ∨ (putV c k v).2.1 ≤ 1000000 := by
  unfold putV
  split
  · rename_i hc
    obtain ⟨e1, e2, e3, e4, e5⟩ := okC_len hc.1
    obtain ⟨f1, f2, f3⟩ := firstV_len (k := k) (v := v) hc.1
    split
    · exact .inl rfl
    · refine .inr ?_
      have hnum : ∀ (d i : Nat), okL c.2.1 c.2.2 d i = true → ∀ j, i ≤ j → j < i + d → Num (c.2.1.getD j 0) := by
        intro d
        induction d with
        | zero => intro i _ j h1 h2; omega
        | succ d ih =>
          intro i h j h1 h2
          simp only [okL, Bool.and_eq_true, decide_eq_true_eq] at h
          by_cases hj : j = i
          · subst hj; exact h.1.1.1
          · exact ih (i + 1) h.2 j (by omega) (by omega)
      have hok : okL c.2.1 c.2.2 c.2.1.length 0 = true := by
        have := hc.1
        simp only [okC, Bool.and_eq_true] at this
        exact this.2
      have hm : ∀ y ∈ (firstV c k v).2.1, y ≤ 1000000 := by
        intro y hy
        simp only [firstV, List.mem_cons] at hy
        rcases hy with rfl | hy
        · exact hc.2.1.2
        · have : y ∈ c.2.1 := by
            unfold rmv at hy
            split at hy
            · exact hy
            · rcases List.mem_append.1 hy with h | h
              · exact List.mem_of_mem_take h
              · exact List.mem_of_mem_drop h
          obtain ⟨j, hj, rfl⟩ := List.getElem_of_mem this
          have := (hnum c.2.1.length 0 hok j (by omega) (by omega)).2
          rwa [getD_at hj] at this
      have hlt : c.1.toNat < (firstV c k v).2.1.length := by omega
      simp only
      rw [getD_at hlt]
      exact hm _ (List.getElem_mem hlt)
  · exact .inl rfl
theorem sPlay_l (N : Nat) (a : List Int) (hN : 1000 ≤ N) (hs : a.length ≤ 300) (hw : ∀ x ∈ a, -9223372036854775808 ≤ x ∧ x ≤ 9223372036854775807) : ∀ (d k i : Nat) (c : Ca) (o : List Int), i + d = a.length → d < k → Sz c N → o.length = i → F9_l0 N a k c.1 c.2.1 c.2.2 o (i : Int) = some (playF (a.drop i) c o) := by
  intro d
  induction d with
  | zero =>
    intro k i c o h hk hc ho
    have hi : i = a.length := by omega
    subst hi
    rw [F9_l0_s _ _ (by omega), F9_l0_b]
    simp [F9_j0, playF]
  | succ d ih =>
    intro k i c o h hk hc ho
    have hi : i < a.length := by omega
    have hx := hw a[i] (List.getElem_mem hi)
    have gl : ∀ z : Int, o.length + [z].length ≤ lim (.int .i64) := fun z => by rw [lim_i64, List.length_singleton]; omega
    rw [F9_l0_s _ _ (by omega), F9_l0_b, List.drop_eq_getElem_cons hi]
    simp only [show (i : Int) < (a.length : Int) by omega, decide_true, cond_true, gd_true (inR hi), Int.toNat_natCast, getD_at hi, playF, F9_j1, gd_true (gl _)]
    rw [w64 (x := (i : Int) + 1) (by omega) (by omega), show ((i : Int) + 1) = ((i + 1 : Nat) : Int) by omega]
    have next : ∀ t : Int, t = (playOp c a[i]).2 → F9_l0 N a (k - 1) (playOp c a[i]).1.1 (playOp c a[i]).1.2.1 (playOp c a[i]).1.2.2 (o ++ [t]) ((i + 1 : Nat) : Int) = some (playF (a.drop (i + 1)) (playOp c a[i]).1 (o ++ [(playOp c a[i]).2])) := fun t ht => by
      subst ht
      exact ih (k - 1) (i + 1) _ _ (by omega) (by omega) (playOp_sz hc (by omega)) (by simp [ho])
    by_cases hneg : a[i] < 0
    · have ew : IntKind.i64.wrap (IntKind.i64.wrap (0 - a[i]) - 1) = -a[i] - 1 := by
        rcases Int.lt_or_eq_of_le hx.1 with h1 | h1
        · rw [w64 (x := 0 - a[i]) (by omega) (by omega), w64 (by omega) (by omega)]
          omega
        · rw [← h1]
          decide
      have ep : playOp c a[i] = ((dropV c (-a[i] - 1)).1, if (dropV c (-a[i] - 1)).2 = true then 1 else 0) := by unfold playOp; rw [if_pos hneg]
      simp only [hneg, decide_true, cond_true, ew, sDrop_v hc, andO_of]
      rw [ep] at next ⊢
      cases hd : (dropV c (-a[i] - 1)).2 with
      | true => simpa [hd] using next 1 (by simp [hd])
      | false => simpa [hd] using next 0 (by simp [hd])
    · simp only [hneg, decide_false, cond_false]
      have hdv : -9223372036854775808 ≤ a[i].tdiv 2 ∧ a[i].tdiv 2 ≤ 9223372036854775807 := by
        rw [Int.tdiv_eq_ediv_of_nonneg (by omega)]; omega
      rw [w64 (x := a[i].tdiv 2) hdv.1 hdv.2]
      by_cases hev : a[i].tmod 2 = 0
      · have ep : playOp c a[i] = ((getV c (a[i].tdiv 2)).1, if (getV c (a[i].tdiv 2)).2.2 = true then (getV c (a[i].tdiv 2)).2.1 else -1) := by unfold playOp; rw [if_neg hneg, if_pos hev]
        simp only [hev, beq_self_eq_true, cond_true, sGet_v hc, andO_of]
        rw [ep] at next ⊢
        cases hd : (getV c (a[i].tdiv 2)).2.2 with
        | true => simpa [hd] using next (getV c (a[i].tdiv 2)).2.1 (by simp [hd])
        | false => simpa [hd] using next (-1) (by simp [hd])
      · have hb : (a[i].tmod 2 == 0) = false := by simpa using hev
        have ep : playOp c a[i] = ((putV c (a[i].tdiv 2) a[i]).1, if (putV c (a[i].tdiv 2) a[i]).2.1 ≤ 1000000 then (putV c (a[i].tdiv 2) a[i]).2.1 else -1) := by unfold playOp; rw [if_neg hneg, if_neg hev]
        simp only [hb, cond_false, sPut_v hc (show 100 ≤ N by omega), andO_of]
        rw [ep] at next ⊢
        by_cases hd : (putV c (a[i].tdiv 2) a[i]).2.1 ≤ 1000000
        · simpa [hd] using next (putV c (a[i].tdiv 2) a[i]).2.1 (by simp [hd])
        · simpa [hd] using next (-1) (by simp [hd])

def playV (n : Int) (a : List Int) : Ca × List Int := if (1 ≤ n ∧ n ≤ 16) ∧ a.length ≤ 300 then playF a (n, ([], [])) [] else ((0, ([], [])), [])

theorem sPlay_v {N : Nat} {n : Int} {a : List Int} (hN : 1000 ≤ N) (hw : ∀ x ∈ a, -9223372036854775808 ≤ x ∧ x ≤ 9223372036854775807) : F9 N n a = some (playV n a) := by
  unfold F9 playV
  rw [sNewCache_v, andO_of]
  by_cases h : 1 ≤ n ∧ n ≤ 16
  · by_cases hl : a.length ≤ 300
    · have h2 := sPlay_l N a hN hl hw a.length N 0 (n, ([], [])) [] (by omega) (by omega) ⟨by simp; omega, by simp; omega, by simp, by simp⟩ rfl
      simp only [h, and_self, if_true, Bool.not_true, cond_false, show ¬ (a.length : Int) > 300 by omega, decide_false, hl]
      simpa using h2
    · simp [h, hl, show (a.length : Int) > 300 by omega]
  · simp [h]
theorem flag_v (N : Nat) (b : Bool) : F39 N b = some (if b = true then 1 else 0) := by cases b <;> rfl
theorem iPlay_l (N : Nat) (a : List Int) (hN : 1000 ≤ N) (hs : a.length ≤ 300) (hw : ∀ x ∈ a, -9223372036854775808 ≤ x ∧ x ≤ 9223372036854775807) : ∀ (d k i : Nat) (c : Ca) (o : List Int), i + d = a.length → d < k → Sz c N → o.length = i → F10_l0 N a k c.1 c.2.1 c.2.2 o (a.length : Int) (i : Int) = some (playF (a.drop i) c o) := by
  intro d
  induction d with
  | zero =>
    intro k i c o h hk hc ho
    have hi : i = a.length := by omega
    subst hi
    rw [F10_l0_s _ _ (by omega), F10_l0_b]
    simp [F10_j0, playF]
  | succ d ih =>
    intro k i c o h hk hc ho
    have hi : i < a.length := by omega
    have hx := hw a[i] (List.getElem_mem hi)
    have gl : ∀ z : Int, o.length + [z].length ≤ lim (.int .i64) := fun z => by rw [lim_i64, List.length_singleton]; omega
    rw [F10_l0_s _ _ (by omega), F10_l0_b, List.drop_eq_getElem_cons hi]
    simp only [show (i : Int) < (a.length : Int) by omega, decide_true, cond_true, gd_true (inR hi), Int.toNat_natCast, getD_at hi, playF, F10_j1, gd_true (gl _)]
    rw [w64 (x := (i : Int) + 1) (by omega) (by omega), show ((i : Int) + 1) = ((i + 1 : Nat) : Int) by omega]
    have next : ∀ t : Int, t = (playOp c a[i]).2 → F10_l0 N a (k - 1) (playOp c a[i]).1.1 (playOp c a[i]).1.2.1 (playOp c a[i]).1.2.2 (o ++ [t]) (a.length : Int) ((i + 1 : Nat) : Int) = some (playF (a.drop (i + 1)) (playOp c a[i]).1 (o ++ [(playOp c a[i]).2])) := fun t ht => by
      subst ht
      exact ih (k - 1) (i + 1) _ _ (by omega) (by omega) (playOp_sz hc (by omega)) (by simp [ho])
    by_cases hneg : a[i] < 0
    · have ew : IntKind.i64.wrap (0 - IntKind.i64.wrap (a[i] + 1)) = -a[i] - 1 := by
        rw [w64 (x := a[i] + 1) (by omega) (by omega), w64 (by omega) (by omega)]
        omega
      have ep : playOp c a[i] = ((dropV c (-a[i] - 1)).1, if (dropV c (-a[i] - 1)).2 = true then 1 else 0) := by unfold playOp; rw [if_pos hneg]
      simp only [hneg, decide_true, cond_true, ew, iDrop_v hc, andO_of, flag_v]
      rw [ep] at next ⊢
      simpa using next _ rfl
    · simp only [hneg, decide_false, cond_false]
      have hdv : -9223372036854775808 ≤ a[i].tdiv 2 ∧ a[i].tdiv 2 ≤ 9223372036854775807 := by
        rw [Int.tdiv_eq_ediv_of_nonneg (by omega)]; omega
      rw [w64 (x := a[i].tdiv 2) hdv.1 hdv.2]
      by_cases hev : a[i].tmod 2 = 0
      · have ep : playOp c a[i] = ((getV c (a[i].tdiv 2)).1, if (getV c (a[i].tdiv 2)).2.2 = true then (getV c (a[i].tdiv 2)).2.1 else -1) := by unfold playOp; rw [if_neg hneg, if_pos hev]
        simp only [hev, beq_self_eq_true, cond_true, iGet_v hc, andO_of]
        rw [ep] at next ⊢
        cases hd : (getV c (a[i].tdiv 2)).2.2 with
        | true => simpa [hd] using next (getV c (a[i].tdiv 2)).2.1 (by simp [hd])
        | false => simpa [hd] using next (-1) (by simp [hd])
      · have hb : (a[i].tmod 2 == 0) = false := by simpa using hev
        have ep : playOp c a[i] = ((putV c (a[i].tdiv 2) a[i]).1, if (putV c (a[i].tdiv 2) a[i]).2.1 ≤ 1000000 then (putV c (a[i].tdiv 2) a[i]).2.1 else -1) := by unfold playOp; rw [if_neg hneg, if_neg hev]
        simp only [hb, cond_false, iPut_v hc (show 100 ≤ N by omega), andO_of]
        rw [ep] at next ⊢
        rcases putV_told (c := c) (k := a[i].tdiv 2) (v := a[i]) with hd | hd
        · simpa [hd] using next (-1) (by simp [hd])
        · have hb2 : ((putV c (a[i].tdiv 2) a[i]).2.1 == 1000001) = false := by
            have : (putV c (a[i].tdiv 2) a[i]).2.1 ≠ 1000001 := by omega
            simpa using this
          simpa [hd, hb2] using next (putV c (a[i].tdiv 2) a[i]).2.1 (by simp [hd])

theorem iPlay_v {N : Nat} {n : Int} {a : List Int} (hN : 1000 ≤ N) (hw : ∀ x ∈ a, -9223372036854775808 ≤ x ∧ x ≤ 9223372036854775807) : F10 N n a = some (playV n a) := by
  unfold F10 playV
  rw [iNewCache_v, andO_of]
  by_cases h : 1 ≤ n ∧ n ≤ 16
  · by_cases hl : a.length ≤ 300
    · have h2 := iPlay_l N a hN hl hw a.length N 0 (n, ([], [])) [] (by omega) (by omega) ⟨by simp; omega, by simp; omega, by simp, by simp⟩ rfl
      simp only [h, and_self, if_true, Bool.not_true, cond_false, show ¬ (a.length : Int) > 300 by omega, decide_false, hl]
      simpa using h2
    · simp [h, hl, show (a.length : Int) > 300 by omega]
  · simp [h]
end Go.Proofs.YtgpddckjpokclaaDoor.Vc
