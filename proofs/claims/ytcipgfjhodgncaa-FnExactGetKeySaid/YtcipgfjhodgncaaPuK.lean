/- The laws on caches. -/
import Derived.Test.YtcipgfjhodgncaaPuC
namespace Go.Proofs.Ytcipgfjhodgncaa.Vc
open Go Go.RowKit
set_option linter.unusedVariables false
set_option linter.unusedSimpArgs false
theorem lawFnExactGetKey (c : Ca) (k : Int) (h : (Ty.pair (.int .i64) (.pair (.sl (.int .i64)) (.sl (.int .i64)))).wf c) (hk : (Ty.int .i64).wf k) : ∃ N, F10 N c k = some true := by
  obtain ⟨h1, h2⟩ := wfCa h
  by_cases hs : (c.2.1.length : Int) + c.2.2.length ≤ 1048576
  · refine ⟨3000000, ?_⟩
    have hz : Sz c 3000000 := ⟨by omega, by omega, by omega, by omega⟩
    have hw := getV_sz (k := k) hz (by omega)
    unfold F10
    rw [szCache_v (by omega) (by omega) (by omega) (by omega), andO_of, if_pos hs]
    simp only [dlt (show (0 : Int) ≤ 1048576 - (c.2.1.length : Int) - (c.2.2.length : Int) by omega), cond_false, tcC hz, andO_of, sGet_v hz, iGet_v hz, eqC hz, eqC hw, mkC hz, mkC hw, hdC hw, dC, decide_true, Bool.not_true, beq_self_eq_true, bne_self_eq_false]
  · refine ⟨1, ?_⟩
    unfold F10
    rw [szCache_v (by omega) (by omega) (by omega) (by omega), andO_of, if_neg hs]
    rfl
/-- How many of these keys are there when they are asked for. -/
def hitsF : List Int → Ca → Int → Int
  | [], _, n => n
  | k :: l, c, n => if (getV c k).2.2 = true then hitsF l (getV c k).1 (n + 1) else hitsF l (putV c k 0).1 n
/-- One op on a cache: the cache, and what is told. -/
def playOp (c : Ca) (x : Int) : Ca × Int :=
  if x < 0 then ((dropV c (-x - 1)).1, if (dropV c (-x - 1)).2 = true then 1 else 0)
  else if x.tmod 2 = 0 then ((getV c (x.tdiv 2)).1, if (getV c (x.tdiv 2)).2.2 = true then (getV c (x.tdiv 2)).2.1 else -1)
  else ((putV c (x.tdiv 2) x).1, if (putV c (x.tdiv 2) x).2.1 ≤ 1000000 then (putV c (x.tdiv 2) x).2.1 else -1)

def playF : List Int → Ca → List Int → Ca × List Int
  | [], c, o => (c, o)
  | x :: l, c, o => playF l (playOp c x).1 (o ++ [(playOp c x).2])

theorem playOp_sz {c : Ca} {x : Int} {N : Nat} (h : Sz c N) (hN : 100 ≤ N) : Sz (playOp c x).1 N := by
  unfold playOp
  split
  · exact dropV_sz h
  · split
    · exact getV_sz h hN
    · exact putV_sz h hN

theorem playF_len : ∀ (l : List Int) (c : Ca) (o : List Int), (playF l c o).2.length = o.length + l.length
  | [], c, o => rfl
  | x :: l, c, o => by
    simp only [playF, playF_len l, List.length_append, List.length_cons, List.length_nil]
    omega

theorem playF_sz {N : Nat} (hN : 100 ≤ N) : ∀ (l : List Int) (c : Ca) (o : List Int), Sz c N → Sz (playF l c o).1 N
  | [], c, o, h => h
  | x :: l, c, o, h => playF_sz hN l _ _ (playOp_sz h hN)

/-- What goes in a cache's last place is a key. -/
theorem putV_told {c : Ca} {k v : Int} : (putV c k v).2.1 = 1000001 ∨ (putV c k v).2.1 ≤ 1000000 := by
  unfold putV
  split
  · rename_i hc
    obtain ⟨e1, e2, e3, e4, e5⟩ := okC_len hc.1
    obtain ⟨f1, f2, f3⟩ := firstV_len (k := k) (v := v) hc.1
    split
    · exact .inl rfl
    · refine .inr ?_
      have hnum : ∀ (d i : Nat), okL c.2.1 c.2.2 d i = true → ∀ j, i ≤ j → j < i + d → Num (c.2.1.getD j 0) := by
        intro d
        induction d with
        | zero => intro i _ j h1 h2; omega
        | succ d ih =>
          intro i h j h1 h2
          simp only [okL, Bool.and_eq_true, decide_eq_true_eq] at h
          by_cases hj : j = i
          · subst hj; exact h.1.1.1
          · exact ih (i + 1) h.2 j (by omega) (by omega)
      have hok : okL c.2.1 c.2.2 c.2.1.length 0 = true := by
        have := hc.1
        simp only [okC, Bool.and_eq_true] at this
        exact this.2
      have hm : ∀ y ∈ (firstV c k v).2.1, y ≤ 1000000 := by
        intro y hy
        simp only [firstV, List.mem_cons] at hy
        rcases hy with rfl | hy
        · exact hc.2.1.2
        · have : y ∈ c.2.1 := by
            unfold rmv at hy
            split at hy
            · exact hy
            · rcases List.mem_append.1 hy with h | h
              · exact List.mem_of_mem_take h
              · exact List.mem_of_mem_drop h
          obtain ⟨j, hj, rfl⟩ := List.getElem_of_mem this
          have := (hnum c.2.1.length 0 hok j (by omega) (by omega)).2
          rwa [getD_at hj] at this
      have hlt : c.1.toNat < (firstV c k v).2.1.length := by omega
      simp only
      rw [getD_at hlt]
      exact hm _ (List.getElem_mem hlt)
  · exact .inl rfl
end Go.Proofs.Ytcipgfjhodgncaa.Vc
