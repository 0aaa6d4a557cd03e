/- Plans, their sizes and copies; the laws of slots. -/
import Derived.Test.YtgpddckjpokclaaPuN
namespace Go.Proofs.Ytgpddckjpokclaa.Vc
open Go Go.RowKit
set_option linter.unusedVariables false
set_option linter.unusedSimpArgs false

abbrev ndT : Ty := .pair (.int .i64) (.pair .str (.pair (.int .i64) (.pair (.int .i64) (.pair (.int .i64) (.pair .bool (.sl (.int .i64)))))))

/-- Nodes of bounded size. -/
def Fits (p : List Nd) : Prop := p.length ≤ 1048576 ∧ ∀ x ∈ p, x.2.1.size ≤ 1048576 ∧ x.2.2.2.2.2.2.length ≤ 1048576

/-- Nodes that have a length at all. -/
def Len (p : List Nd) : Prop := p.length ≤ 9223372036854775807 ∧ ∀ x ∈ p, x.2.1.size ≤ 9223372036854775807 ∧ x.2.2.2.2.2.2.length ≤ 9223372036854775807

theorem len_of {p : List Nd} (h : (Ty.sl ndT).wf p) : Len p := by
  refine ⟨h.1, fun x hx => ?_⟩
  have h1 := h.2 x hx
  exact ⟨h1.2.1, h1.2.2.2.2.2.2.1⟩
theorem szNode_v {N : Nat} {a : Nd} {l : Int} (hl : 0 ≤ l) (hl2 : l ≤ 1048576) (h1 : a.2.1.size ≤ 9223372036854775807) (h2 : a.2.2.2.2.2.2.length ≤ 9223372036854775807) :
    ∃ r : Int, F83 N a l = some r ∧ r ≤ l ∧ (r < 0 → r = -1) ∧ (0 ≤ r → a.2.1.size ≤ 1048576 ∧ a.2.2.2.2.2.2.length ≤ 1048576) := by
  unfold F83
  rw [w64 (by omega) (by omega)]
  by_cases hb : l - (a.2.1.size : Int) < 0
  · exact ⟨-1, by simp [hb], by omega, fun _ => rfl, fun h => absurd h (by omega)⟩
  · rw [szIntS_v (by omega) (by omega) h2, andO_of]
    by_cases hc : (a.2.2.2.2.2.2.length : Int) ≤ l - (a.2.1.size : Int)
    · refine ⟨l - (a.2.1.size : Int) - a.2.2.2.2.2.2.length, ?_, by omega, by omega, fun _ => by omega⟩
      simp only [hb, hc, decide_false, cond_false, if_true, show ¬ l - (a.2.1.size : Int) - a.2.2.2.2.2.2.length < 0 by omega]
    · exact ⟨-1, by simp [hb, hc], by omega, fun _ => rfl, fun h => absurd h (by omega)⟩
theorem szNodeS_l (N : Nat) (a : List Nd) (hL : Len a) (hs : a.length < 4611686018427387904) : ∀ (d k i : Nat) (l : Int), i + d = a.length → d < k → 0 ≤ l → l ≤ 1048576 →
    ∃ r : Int, F25_l0 N a k l (i : Int) = some r ∧ r ≤ l ∧ (r < 0 → r = -1) ∧ (0 ≤ r → ∀ x ∈ a.drop i, x.2.1.size ≤ 1048576 ∧ x.2.2.2.2.2.2.length ≤ 1048576) := by
  intro d
  induction d with
  | zero =>
    intro k i l h hk h0 h1
    rw [F25_l0_s _ _ (by omega), F25_l0_b]
    refine ⟨l, by simp only [show ¬ (i : Int) < (a.length : Int) by omega, decide_false, cond_false, F25_j0], by omega, by omega, fun _ => ?_⟩
    rw [List.drop_eq_nil_of_le (by omega)]
    intro x hx; cases hx
  | succ d ih =>
    intro k i l h hk h0 h1
    have hi : i < a.length := by omega
    rw [F25_l0_s _ _ (by omega), F25_l0_b]
    obtain ⟨r, e1, e2, e3, e4⟩ := szNode_v (N := N) (a := a[i]) h0 h1 (hL.2 _ (List.getElem_mem hi)).1 (hL.2 _ (List.getElem_mem hi)).2
    simp only [show (i : Int) < (a.length : Int) by omega, decide_true, cond_true, gd_true (inR hi), Int.toNat_natCast, getD_at hi, e1, andO_of]
    rw [w64 (by omega) (by omega), show ((i : Int) + 1) = ((i + 1 : Nat) : Int) by omega]
    by_cases hr : r < 0
    · exact ⟨-1, by simp [hr], by omega, fun _ => rfl, fun h => absurd h (by omega)⟩
    · obtain ⟨r', f1, f2, f3, f4⟩ := ih (k - 1) (i + 1) r (by omega) (by omega) (by omega) (by omega)
      refine ⟨r', by simp only [hr, decide_false, cond_false, f1], by omega, f3, fun h => ?_⟩
      rw [List.drop_eq_getElem_cons hi]
      intro x hx
      rcases List.mem_cons.mp hx with rfl | hx
      · exact e4 (by omega)
      · exact f4 h x hx

theorem szNodeS_v {N : Nat} {a : List Nd} {l : Int} (hL : Len a) (hN : 1048576 < N) (h0 : 0 ≤ l) (h1 : l ≤ 1048576) :
    ∃ r : Int, F25 N a l = some r ∧ r ≤ l ∧ (r < 0 → r = -1) ∧ (0 ≤ r → Fits a) := by
  unfold F25
  have := hL.1
  rw [w64 (by omega) (by omega)]
  by_cases hb : l - (a.length : Int) < 0
  · exact ⟨-1, by simp [hb], by omega, fun _ => rfl, fun h => absurd h (by omega)⟩
  · obtain ⟨r, e1, e2, e3, e4⟩ := szNodeS_l N a hL (by omega) a.length N 0 (l - a.length) (by omega) (by omega) (by omega) (by omega)
    refine ⟨r, ?_, by omega, e3, fun h => ⟨by omega, by simpa using e4 h⟩⟩
    rw [decide_eq_false hb, cond_false]
    exact e1
theorem toNode_v {N : Nat} {a : Nd} (h1 : a.2.2.2.2.2.2.length ≤ 1048576) (hN : 1048576 < N) : F84 N a = some a := by
  unfold F84
  rw [toIntS_v (by omega) (by omega), andO_of]
theorem toNodeS_l (N : Nat) (a : List Nd) (hf : Fits a) (hN : 1048576 < N) : ∀ (d k i : Nat) (u : List Nd), i + d = a.length → u.length = d → d < k → F27_l0 N a k (a.take i ++ u) (i : Int) = some a := by
  intro d
  have hs := hf.1
  induction d with
  | zero =>
    intro k i u h hu hk
    rw [F27_l0_s _ _ (by omega), F27_l0_b]
    obtain rfl : u = [] := List.length_eq_zero_iff.mp hu
    simp only [show ¬ (i : Int) < (a.length : Int) by omega, decide_false, cond_false, F27_j0, List.append_nil]
    rw [List.take_of_length_le (by omega)]
  | succ d ih =>
    intro k i u h hu hk
    have hi : i < a.length := by omega
    cases u with
    | nil => simp at hu
    | cons y u =>
      simp only [List.length_cons] at hu
      have hl : (a.take i ++ y :: u).length = a.length := by simp; omega
      rw [F27_l0_s _ _ (by omega), F27_l0_b]
      simp only [hl, show (i : Int) < (a.length : Int) by omega, decide_true, cond_true, gd_true (inR hi), Int.toNat_natCast, gd_true hi, getD_at hi, toNode_v (hf.2 _ (List.getElem_mem hi)).2 hN, andO_of]
      rw [w64 (x := (i : Int) + 1) (by omega) (by omega), show ((i : Int) + 1) = ((i + 1 : Nat) : Int) by omega]
      have hset : (a.take i ++ y :: u).set i a[i] = a.take (i + 1) ++ u := by
        rw [List.set_append_right _ _ (by simp; omega)]
        have : i - (a.take i).length = 0 := by simp; omega
        rw [this, List.set_cons_zero, List.take_succ_eq_append_getElem hi, List.append_assoc, List.singleton_append]
      rw [hset]
      exact ih (k - 1) (i + 1) u (by omega) (by omega) (by omega)

theorem lim_nd : 1048576 ≤ lim ndT := by decide +kernel

theorem toNodeS_v {N : Nat} {a : List Nd} (hf : Fits a) (hN : 1048576 < N) : F27 N a = some a := by
  unfold F27
  have hs := hf.1
  have hl := lim_nd
  rw [gd_true ⟨by omega, by show (a.length : Int) ≤ (lim ndT : Int); omega, rfl⟩]
  have := toNodeS_l N a hf hN a.length N 0 (List.replicate a.length (Ty.dflt ndT)) (by omega) (by simp) (by omega)
  simpa using this
theorem eqNode_r {N : Nat} {a : Nd} (h1 : a.2.2.2.2.2.2.length ≤ 1048576) (hN : 1048576 < N) : F85 N a a = some true := by
  unfold F85
  simp only [bne_self_eq_false, cond_false, beq_self_eq_true, Bool.not_true]
  rw [eqIntS_v (by omega) (by omega), andO_of]
  simp
theorem eqNodeS_l (N : Nat) (a : List Nd) (hf : Fits a) (hN : 1048576 < N) : ∀ (d k i : Nat), i + d = a.length → d < k → F29_l0 N a a k (i : Int) = some true := by
  intro d
  have hs := hf.1
  induction d with
  | zero =>
    intro k i h hk
    rw [F29_l0_s _ _ _ (by omega), F29_l0_b]
    simp only [show ¬ (i : Int) < (a.length : Int) by omega, decide_false, cond_false, F29_j0]
  | succ d ih =>
    intro k i h hk
    have hi : i < a.length := by omega
    rw [F29_l0_s _ _ _ (by omega), F29_l0_b]
    simp only [show (i : Int) < (a.length : Int) by omega, decide_true, cond_true, gd_true (inR hi), Int.toNat_natCast, getD_at hi, eqNode_r (hf.2 _ (List.getElem_mem hi)).2 hN, andO_of, Bool.not_true, cond_false]
    rw [w64 (by omega) (by omega), show ((i : Int) + 1) = ((i + 1 : Nat) : Int) by omega]
    exact ih (k - 1) (i + 1) (by omega) (by omega)

theorem eqNodeS_r {N : Nat} {a : List Nd} (hf : Fits a) (hN : 1048576 < N) : F29 N a a = some true := by
  unfold F29
  have hs := hf.1
  simp only [bne_self_eq_false, cond_false]
  exact eqNodeS_l N a hf hN a.length N 0 (by omega) (by omega)
theorem arity_same (N : Nat) (k : Int) : F198 N k = F165 N k := rfl

theorem arity_v (N : Nat) (k : Int) : ∃ r : Int, F165 N k = some r ∧ r ≤ 2 := by
  unfold F165
  simp only [F165_j1, F165_j0]
  generalize (k == 0) = q0
  generalize (k == 1) = q1
  generalize (k == 2) = q2
  generalize (k == 3) = q3
  generalize (k == 4) = q4
  generalize (k == 5) = q5
  generalize (k == 6) = q6
  generalize (k == 7) = q7
  cases q0 <;> cases q3 <;> cases q4 <;> cases q1 <;> cases q2 <;> cases q5 <;> cases q6 <;> cases q7 <;> exact ⟨_, rfl, by omega⟩
theorem ends_l (N : Nat) (p : List Nd) (at_ : Nat) (hat : at_ < p.length) (hp : p.length ≤ 1048576) (room : Nat) (hroom : room ≤ 9) (si : List Nd → Int → Int → Option Int) (ss : List Nd → Int → Int → Option (Int × Int))
    (ih : ∀ x : Nat, x ≤ p.length → ∃ e d : Int, si p x (11 - (room : Int)) = some e ∧ ss p x (room : Int) = some (e, d) ∧ (e = -1 ∨ ((x : Int) < e ∧ e ≤ p.length)) ∧ 0 ≤ d ∧ d ≤ room)
    (ar : Int) (har : F165 N p[at_].1 = some ar) (har2 : ar ≤ 2) : ∀ (m k1 k2 x t : Nat) (dd : Int), ar ≤ (t : Int) + m → t ≤ 2 → t + m ≤ 3 → m < k1 → m < k2 → at_ < x → x ≤ p.length → 0 ≤ dd → dd ≤ room →
    ∃ e d : Int, F148_l0 N p (10 - (room : Int)) si ar k1 x t = some e ∧ F112_l0 N p at_ ((room : Int) + 1) ss k2 x dd t = some (e, d) ∧ (e = -1 ∨ ((at_ : Int) < e ∧ e ≤ p.length)) ∧ 0 ≤ d ∧ d ≤ room + 1 := by
  intro m
  induction m with
  | zero =>
    intro k1 k2 x t dd h1 ht h2 hk1 hk2 hx hx2 hd hd2
    rw [F148_l0_s _ _ _ _ _ (by omega), F148_l0_b, F112_l0_s _ _ _ _ _ (by omega), F112_l0_b]
    simp only [gd_true (inR hat), Int.toNat_natCast, getD_at hat, har, andO_of, show ¬ (t : Int) < ar by omega, decide_false, cond_false, F148_j0, F112_j0]
    rw [w64 (by omega) (by omega)]
    exact ⟨x, dd + 1, rfl, rfl, .inr ⟨by omega, by omega⟩, by omega, by omega⟩
  | succ m ihm =>
    intro k1 k2 x t dd h1 ht h2 hk1 hk2 hx hx2 hd hd2
    rw [F148_l0_s _ _ _ _ _ (by omega), F148_l0_b, F112_l0_s _ _ _ _ _ (by omega), F112_l0_b]
    simp only [gd_true (inR hat), Int.toNat_natCast, getD_at hat, har, andO_of, F148_j0, F112_j0, F112_j1]
    by_cases hlt : (t : Int) < ar
    · obtain ⟨e, d, e1, e2, e3, e4, e5⟩ := ih x hx2
      simp only [hlt, decide_true, cond_true]
      rw [w64 (x := 10 - (room : Int) + 1) (by omega) (by omega), w64 (x := (room : Int) + 1 - 1) (by omega) (by omega), show 10 - (room : Int) + 1 = 11 - (room : Int) by omega, show (room : Int) + 1 - 1 = (room : Int) by omega, e1, e2, andO_of, andO_of]
      simp only
      by_cases hn : e < 0
      · simp only [hn, decide_true, cond_true]
        exact ⟨-1, 0, rfl, rfl, .inl rfl, by omega, by omega⟩
      · simp only [hn, decide_false, cond_false]
        obtain ⟨e', rfl⟩ : ∃ e' : Nat, e = (e' : Int) := ⟨e.toNat, by omega⟩
        rw [w64 (x := (t : Int) + 1) (by omega) (by omega), show (t : Int) + 1 = ((t + 1 : Nat) : Int) by omega]
        by_cases hgt : d > dd
        · simp only [hgt, decide_true, cond_true]
          exact ihm (k1 - 1) (k2 - 1) e' (t + 1) d (by omega) (by omega) (by omega) (by omega) (by omega) (by omega) (by omega) (by omega) (by omega)
        · simp only [hgt, decide_false, cond_false]
          exact ihm (k1 - 1) (k2 - 1) e' (t + 1) dd (by omega) (by omega) (by omega) (by omega) (by omega) (by omega) (by omega) (by omega) (by omega)
    · simp only [hlt, decide_false, cond_false]
      rw [w64 (by omega) (by omega)]
      exact ⟨x, dd + 1, rfl, rfl, .inr ⟨by omega, by omega⟩, by omega, by omega⟩

theorem ends (N : Nat) (p : List Nd) (hp : p.length ≤ 1048576) (hN : 3 < N) : ∀ (room k1 k2 x : Nat), room ≤ 10 → room < k1 → room < k2 → x ≤ p.length →
    ∃ e d : Int, F148_r N k1 p x (11 - (room : Int)) = some e ∧ F112_r N k2 p x (room : Int) = some (e, d) ∧ (e = -1 ∨ ((x : Int) < e ∧ e ≤ p.length)) ∧ 0 ≤ d ∧ d ≤ room := by
  intro room
  induction room with
  | zero =>
    intro k1 k2 x hr hk1 hk2 hx
    rw [F148_s _ (by omega), F148_b, F112_s _ (by omega), F112_b]
    by_cases hge : (x : Int) ≥ (p.length : Int)
    · simp only [hge, decide_true, cond_true]
      exact ⟨-1, 0, rfl, rfl, .inl rfl, by omega, by omega⟩
    · simp only [hge, decide_false, cond_false, show (11 - ((0 : Nat) : Int)) > 10 by omega, decide_true, cond_true]
      exact ⟨-1, 0, rfl, rfl, .inl rfl, by omega, by omega⟩
  | succ room ih =>
    intro k1 k2 x hr hk1 hk2 hx
    rw [F148_s _ (by omega), F148_b, F112_s _ (by omega), F112_b]
    by_cases hge : (x : Int) ≥ (p.length : Int)
    · simp only [hge, decide_true, cond_true]
      exact ⟨-1, 0, rfl, rfl, .inl rfl, by omega, by omega⟩
    · have hi : x < p.length := by omega
      have hz : ((((room + 1 : Nat)) : Int) == 0) = false := by
        rw [beq_eq_false_iff_ne]; omega
      obtain ⟨ar, har, har2⟩ := arity_v N p[x].1
      simp only [hge, decide_false, cond_false, show ¬ (11 - ((room + 1 : Nat) : Int)) > 10 by omega, hz, gd_true (inR hi), Int.toNat_natCast, getD_at hi, arity_same, har, andO_of]
      rw [w64 (x := (x : Int) + 1) (by omega) (by omega), show (x : Int) + 1 = ((x + 1 : Nat) : Int) by omega, show (11 - ((room + 1 : Nat) : Int)) = 10 - (room : Int) by omega, show (((room + 1 : Nat)) : Int) = (room : Int) + 1 by omega]
      have := ends_l N p x hi hp room (by omega) (F148_r N (k1 - 1)) (F112_r N (k2 - 1)) (fun y hy => ih (k1 - 1) (k2 - 1) y (by omega) (by omega) (by omega) hy) ar har har2 3 N N (x + 1) 0 0 (by omega) (by omega) (by omega) (by omega) (by omega) (by omega) (by omega) (by omega) (by omega)
      exact this
theorem iPlanOk1_v {N : Nat} {x : Nd} (hN : 1048576 < N) (hx : x.2.1.size ≤ 1048576 ∧ x.2.2.2.2.2.2.length ≤ 1048576) : F146 N x = some (!nodeB x) := by
  unfold F146
  rw [iNodeOk_v (by omega) (by omega) (by omega) (by omega) (by omega), andO_of]
theorem sPlan_l (N : Nat) (p : List Nd) (hf : Fits p) (hN : 1048576 < N) (z : Bool) (hz : F86_j0 N p = some z) : ∀ (d k i : Nat), i + d = p.length → d < k → F86_l0 N p k (i : Int) = some ((p.drop i).all nodeB && z) := by
  intro d
  have hs := hf.1
  induction d with
  | zero =>
    intro k i h hk
    rw [F86_l0_s _ _ (by omega), F86_l0_b]
    simp only [show ¬ (i : Int) < (p.length : Int) by omega, decide_false, cond_false, hz]
    rw [List.drop_eq_nil_of_le (by omega)]
    rfl
  | succ d ih =>
    intro k i h hk
    have hi : i < p.length := by omega
    have hm := hf.2 _ (List.getElem_mem hi)
    rw [F86_l0_s _ _ (by omega), F86_l0_b]
    simp only [show (i : Int) < (p.length : Int) by omega, decide_true, cond_true, gd_true (inR hi), Int.toNat_natCast, getD_at hi, sNodeOk_v (show _ < N by omega) (show _ < N by omega) (show p[i].2.2.2.2.2.2.length < 4611686018427387904 by omega) (by omega), andO_of]
    rw [w64 (by omega) (by omega), show ((i : Int) + 1) = ((i + 1 : Nat) : Int) by omega, ih (k - 1) (i + 1) (by omega) (by omega), List.drop_eq_getElem_cons hi, List.all_cons]
    cases nodeB p[i] <;> rfl

/-- A plan is one to both. -/
theorem planOk_v {N : Nat} {p : List Nd} (hf : Fits p) (hN : 1048576 < N) : ∃ b, F88 N p = some b ∧ F86 N p = some b ∧ (b = true → p.length ≤ 40 ∧ ∀ x ∈ p, nodeB x = true) := by
  have hs := hf.1
  unfold F88 F86
  obtain ⟨e, d, e1, e2, e3, e4, e5⟩ := ends N p hs (by omega) 10 N N 0 (by omega) (by omega) (by omega) (by omega)
  have e1' : F148 N p (0 : Int) (1 : Int) = some e := e1
  have e2' : F112 N p (0 : Int) (10 : Int) = some (e, d) := e2
  have hj : F86_j0 N p = some (e == (p.length : Int)) := by
    unfold F86_j0
    rw [e2', andO_of]
  have hl := sPlan_l N p hf hN _ hj p.length N 0 (by omega) (by omega)
  rw [show (((0 : Nat)) : Int) = 0 from rfl, List.drop_zero] at hl
  rw [in_v, l01In_v, andO_of, andO_of, hl, contFuncN_v (q := fun x => !nodeB x) (fun x hx => iPlanOk1_v hN (hf.2 x hx)) (by omega) (by omega), andO_of, e1', andO_of]
  have hany : (p.any fun x => !nodeB x) = !(p.all nodeB) := by
    rw [List.not_all_eq_any_not]
  rw [hany]
  by_cases hb : (1 : Int) ≤ (p.length : Int) ∧ (p.length : Int) ≤ 40
  · simp only [hb, and_self, decide_true, Bool.not_true, cond_false]
    cases ha : p.all nodeB with
    | false => exact ⟨false, rfl, rfl, fun h => by cases h⟩
    | true =>
      refine ⟨e == (p.length : Int), rfl, rfl, fun _ => ⟨by omega, fun x hx => ?_⟩⟩
      exact List.all_eq_true.mp ha x hx
  · simp only [hb, decide_false, Bool.not_false, cond_true]
    exact ⟨false, rfl, rfl, fun h => by cases h⟩
end Go.Proofs.Ytgpddckjpokclaa.Vc
