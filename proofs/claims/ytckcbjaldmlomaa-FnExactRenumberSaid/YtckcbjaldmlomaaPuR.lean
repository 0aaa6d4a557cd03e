/- Renumbered plans. -/
import Derived.Test.YtckcbjaldmlomaaPuT
import Derived.Test.YtckcbjaldmlomaaPuH
namespace Go.Proofs.Ytckcbjaldmlomaa.Vc
open Go Go.RowKit
set_option linter.unusedVariables false
set_option linter.unusedSimpArgs false

def numN (x : Nd) (v : Int) : Nd := (x.1, x.2.1, x.2.2.1, x.2.2.2.1, v, x.2.2.2.2.2.1, x.2.2.2.2.2.2)

def seenN (seen : List Int) (v : Int) : List Int := if v ∈ seen then seen else seen ++ [v]

/-- A plan with its slots renumbered, d nodes from i on. -/
def renL : Nat → Nat → List Nd → List Int → List Nd
  | 0, _, l, _ => l
  | d + 1, i, l, seen => cond (l.getD i dN).2.2.2.2.2.1 (renL d (i + 1) (l.set i (numN (l.getD i dN) (idx (l.getD i dN).2.2.2.2.1 (seenN seen (l.getD i dN).2.2.2.2.1)))) (seenN seen (l.getD i dN).2.2.2.2.1)) (renL d (i + 1) l seen)

theorem seenN_len (seen : List Int) (v : Int) : (seenN seen v).length ≤ seen.length + 1 := by
  unfold seenN
  split <;> simp

theorem idxF_append (x : Int) : ∀ (l : List Int) (i : Nat), x ∉ l → idxF x (l ++ [x]) i = ((i + l.length : Nat) : Int)
  | [], i, _ => by simp [idxF]
  | y :: l, i, h => by
    simp only [List.mem_cons, not_or] at h
    rw [List.cons_append, idxF, if_neg (fun e => h.1 e.symm), idxF_append x l (i + 1) h.2, List.length_cons]
    congr 1
    omega

theorem renL_keep (A : Nd → Prop) (hA : ∀ x v, A x → A (numN x v)) (hd : A dN) : ∀ (d i : Nat) (l : List Nd) (seen : List Int), (∀ x ∈ l, A x) → (renL d i l seen).length = l.length ∧ ∀ x ∈ renL d i l seen, A x
  | 0, i, l, seen, hl => ⟨rfl, hl⟩
  | d + 1, i, l, seen, hl => by
    rw [renL]
    cases hs : (l.getD i dN).2.2.2.2.2.1 with
    | false => exact renL_keep A hA hd d (i + 1) l seen hl
    | true =>
      have hx : A (l.getD i dN) := by
        rw [List.getD_eq_getElem?_getD]
        cases hg : l[i]? with
        | none => exact hd
        | some y => exact hl y (List.mem_of_getElem? hg)
      rw [cond_true]
      obtain ⟨h1, h2⟩ := renL_keep A hA hd d (i + 1) (l.set i (numN (l.getD i dN) (idx (l.getD i dN).2.2.2.2.1 (seenN seen (l.getD i dN).2.2.2.2.1)))) (seenN seen (l.getD i dN).2.2.2.2.1) (fun x hx' => by
        rcases List.mem_or_eq_of_mem_set hx' with h3 | h3
        · exact hl x h3
        · rw [h3]; exact hA _ _ hx)
      exact ⟨by rw [h1, List.length_set], h2⟩
theorem iRen_l (N n : Nat) (hn : n ≤ 1000000) (hN : 1048576 < N) : ∀ (d k i : Nat) (l : List Nd) (seen : List Int), l.length = n → i + d = n → d < k → seen.length ≤ i →
    F17_l0 N k l seen (n : Int) (i : Int) = some (renL d i l seen, true) := by
  intro d
  have hlim := lim_i64
  induction d with
  | zero =>
    intro k i l seen hl h hk hs
    rw [F17_l0_s _ (by omega), F17_l0_b]
    simp only [show ¬ (i : Int) < (n : Int) by omega, decide_false, cond_false, F17_j0, renL]
  | succ d ih =>
    intro k i l seen hl h hk hs
    have hi : i < l.length := by omega
    rw [F17_l0_s _ (by omega), F17_l0_b]
    simp only [show (i : Int) < (n : Int) by omega, decide_true, cond_true, gd_true (inR hi), gd_true hi, Int.toNat_natCast, getD_at hi, F17_j1, F17_j2]
    rw [renL, getD_at hi, w64 (x := (i : Int) + 1) (by omega) (by omega), show ((i : Int) + 1) = ((i + 1 : Nat) : Int) by omega]
    cases hsl : l[i].2.2.2.2.2.1 with
    | false =>
      simp only [Bool.not_false, cond_true, cond_false]
      exact ih (k - 1) (i + 1) l seen hl (by omega) (by omega) (by omega)
    | true =>
      simp only [Bool.not_true, cond_false, cond_true]
      rw [index_v (by omega) (by omega), andO_of]
      have hsn := seenN_len seen l[i].2.2.2.2.1
      by_cases hm : l[i].2.2.2.2.1 ∈ seen
      · have h0 : ¬ idx l[i].2.2.2.2.1 seen < 0 := by
          rcases idxF_lt l[i].2.2.2.2.1 seen 0 with h1 | ⟨j, _, h2, _⟩
          · exact absurd hm (idxF_none.1 h1)
          · show ¬ idxF _ _ 0 < 0
            omega
        have he : seenN seen l[i].2.2.2.2.1 = seen := by simp [seenN, hm]
        simp only [h0, decide_false, cond_false, he]
        have := ih (k - 1) (i + 1) (l.set i (numN l[i] (idx l[i].2.2.2.2.1 seen))) seen (by rw [List.length_set]; exact hl) (by omega) (by omega) (by omega)
        simp only [numN, hsl] at this ⊢
        exact this
      · have h1 : idx l[i].2.2.2.2.1 seen = -1 := idxF_none.2 hm
        have he : seenN seen l[i].2.2.2.2.1 = seen ++ [l[i].2.2.2.2.1] := by simp [seenN, hm]
        have hx : idx l[i].2.2.2.2.1 (seen ++ [l[i].2.2.2.2.1]) = (seen.length : Int) := by
          have := idxF_append l[i].2.2.2.2.1 seen 0 hm
          simpa using this
        rw [h1]
        simp only [show (-1 : Int) < 0 by omega, decide_true, cond_true, he, hx]
        rw [gd_true (show seen.length + [l[i].2.2.2.2.1].length ≤ lim (.int .i64) by simp; omega)]
        have := ih (k - 1) (i + 1) (l.set i (numN l[i] (seen.length : Int))) (seen ++ [l[i].2.2.2.2.1]) (by rw [List.length_set]; exact hl) (by omega) (by omega) (by simp; omega)
        simp only [numN, hsl] at this ⊢
        exact this
/-- No place of the list has it: nothing is set. -/
theorem sRen_no (N : Nat) (p : List Nd) (nx : List Nd → List Int → Int → Option (List Nd × Bool)) (i : Nat) (hi : i < p.length) (seen : List Int) (hs : seen.length ≤ 1000000) (hp : p.length ≤ 1000000) : ∀ (d k q : Nat) (l : List Nd), q + d = seen.length → d < k → p[i].2.2.2.2.1 ∉ seen.drop q →
    F16_l0 N p nx (i : Int) seen k l (q : Int) = nx l seen ((i + 1 : Nat) : Int) := by
  intro d
  induction d with
  | zero =>
    intro k q l h hk hq
    rw [F16_l0_s _ _ _ _ _ (by omega), F16_l0_b]
    simp only [show ¬ (q : Int) < (seen.length : Int) by omega, decide_false, cond_false, F16_j1]
    rw [w64 (by omega) (by omega)]
    rfl
  | succ d ih =>
    intro k q l h hk hq
    have hql : q < seen.length := by omega
    rw [List.drop_eq_getElem_cons hql, List.mem_cons, not_or] at hq
    rw [F16_l0_s _ _ _ _ _ (by omega), F16_l0_b]
    have he : (seen[q] == p[i].2.2.2.2.1) = false := by rw [beq_eq_false_iff_ne]; exact fun e => hq.1 e.symm
    simp only [show (q : Int) < (seen.length : Int) by omega, decide_true, cond_true, gd_true (inR hql), gd_true hql, Int.toNat_natCast, getD_at hql, gd_true (inR hi), getD_at hi, he, cond_false, F16_j2]
    rw [w64 (x := (q : Int) + 1) (by omega) (by omega), show ((q : Int) + 1) = ((q + 1 : Nat) : Int) by omega]
    exact ih (k - 1) (q + 1) l (by omega) (by omega) hq.2

theorem sRen_yes (N : Nat) (p : List Nd) (nx : List Nd → List Int → Int → Option (List Nd × Bool)) (i : Nat) (hi : i < p.length) (seen : List Int) (hs : seen.length ≤ 1000000) (hp : p.length ≤ 1000000) (hnd : seen.Nodup) (l : List Nd) (hl : i < l.length) : ∀ (d k q : Nat), q + d = seen.length → d < k → p[i].2.2.2.2.1 ∈ seen.drop q →
    F16_l0 N p nx (i : Int) seen k l (q : Int) = nx (l.set i (numN l[i] (idxF p[i].2.2.2.2.1 (seen.drop q) q))) seen ((i + 1 : Nat) : Int) := by
  intro d
  induction d with
  | zero =>
    intro k q h hk hq
    rw [List.drop_eq_nil_of_le (by omega)] at hq
    cases hq
  | succ d ih =>
    intro k q h hk hq
    have hql : q < seen.length := by omega
    have hnd2 : (seen.drop q).Nodup := hnd.sublist (List.drop_sublist _ _)
    rw [List.drop_eq_getElem_cons hql] at hq hnd2 ⊢
    rw [F16_l0_s _ _ _ _ _ (by omega), F16_l0_b]
    simp only [show (q : Int) < (seen.length : Int) by omega, decide_true, cond_true, gd_true (inR hql), gd_true hql, Int.toNat_natCast, getD_at hql, gd_true (inR hi), getD_at hi, gd_true (inR hl), gd_true hl, getD_at hl, F16_j2]
    rw [w64 (x := (q : Int) + 1) (by omega) (by omega), show ((q : Int) + 1) = ((q + 1 : Nat) : Int) by omega]
    by_cases he : seen[q] = p[i].2.2.2.2.1
    · have hb : (seen[q] == p[i].2.2.2.2.1) = true := by rw [beq_iff_eq]; exact he
      rw [hb, cond_true, idxF, if_pos he]
      rw [sRen_no N p nx i hi seen hs hp d (k - 1) (q + 1) _ (by omega) (by omega) (by rw [← he]; exact (List.nodup_cons.1 hnd2).1)]
      rfl
    · have hb : (seen[q] == p[i].2.2.2.2.1) = false := by rw [beq_eq_false_iff_ne]; exact he
      rw [hb, cond_false, idxF, if_neg he]
      exact ih (k - 1) (q + 1) (by omega) (by omega) ((List.mem_cons.1 hq).resolve_left (fun e => he e.symm))
theorem sRen_l (N : Nat) (p : List Nd) (hp : p.length ≤ 1000000) (hN : 1048576 < N) : ∀ (d k i : Nat) (l : List Nd) (seen : List Int), l.length = p.length → i + d = p.length → d < k → seen.length ≤ i → seen.Nodup → (∀ j, i ≤ j → l[j]? = p[j]?) →
    F16_l1 N p k l seen (i : Int) = some (renL d i l seen, true) := by
  intro d
  have hlim := lim_i64
  induction d with
  | zero =>
    intro k i l seen hl h hk hs hnd hj
    rw [F16_l1_s _ _ (by omega), F16_l1_b]
    simp only [show ¬ (i : Int) < (l.length : Int) by omega, decide_false, cond_false, F16_j0, renL]
  | succ d ih =>
    intro k i l seen hl h hk hs hnd hj
    have hi : i < l.length := by omega
    have hip : i < p.length := by omega
    have hlp : l[i] = p[i] := by
      have := hj i (Nat.le_refl _)
      rw [List.getElem?_eq_getElem hi, List.getElem?_eq_getElem hip] at this
      exact Option.some.inj this
    rw [F16_l1_s _ _ (by omega), F16_l1_b]
    simp only [show (i : Int) < (l.length : Int) by omega, decide_true, cond_true, gd_true (inR hi), gd_true hi, gd_true (inR hip), Int.toNat_natCast, getD_at hi, getD_at hip, F16_j1, F16_j3]
    rw [renL, getD_at hi]
    cases hsl : l[i].2.2.2.2.2.1 with
    | false =>
      simp only [Bool.not_false, cond_true, cond_false]
      rw [w64 (x := (i : Int) + 1) (by omega) (by omega), show ((i : Int) + 1) = ((i + 1 : Nat) : Int) by omega]
      exact ih (k - 1) (i + 1) l seen hl (by omega) (by omega) (by omega) hnd (fun j hj' => hj j (by omega))
    | true =>
      simp only [Bool.not_true, cond_false, cond_true]
      rw [l01Has_v (by omega) (by omega), andO_of, hlp]
      have fin : ∀ seen' : List Int, seen' = seenN seen p[i].2.2.2.2.1 → F16_l0 N p (F16_l1 N p (k - 1)) (i : Int) seen' N l (0 : Int) = some (renL d (i + 1) (l.set i (numN p[i] (idx p[i].2.2.2.2.1 (seenN seen p[i].2.2.2.2.1)))) (seenN seen p[i].2.2.2.2.1), true) := by
        intro seen' he
        have hlen := seenN_len seen p[i].2.2.2.2.1
        have hmem : p[i].2.2.2.2.1 ∈ seenN seen p[i].2.2.2.2.1 := by
          unfold seenN
          split
          · assumption
          · simp
        have hnd' : (seenN seen p[i].2.2.2.2.1).Nodup := by
          unfold seenN
          split
          · exact hnd
          · rename_i hm
            rw [List.nodup_append]
            exact ⟨hnd, by simp, fun a ha b hb => by simp at hb; subst hb; exact fun e => hm (e ▸ ha)⟩
        subst he
        have := sRen_yes N p (F16_l1 N p (k - 1)) i hip (seenN seen p[i].2.2.2.2.1) (by omega) hp hnd' l hi (seenN seen p[i].2.2.2.2.1).length N 0 (by omega) (by omega) (by simpa using hmem)
        rw [List.drop_zero, hlp] at this
        rw [show (0 : Int) = ((0 : Nat) : Int) from rfl, this]
        refine ih (k - 1) (i + 1) _ _ (by rw [List.length_set]; exact hl) (by omega) (by omega) (by omega) hnd' (fun j hj' => ?_)
        rw [List.getElem?_set_ne (by omega)]
        exact hj j (by omega)
      by_cases hm : p[i].2.2.2.2.1 ∈ seen
      · simp only [hm, decide_true, Bool.not_true, cond_false]
        exact fin seen (by simp [seenN, hm])
      · simp only [hm, decide_false, Bool.not_false, cond_true]
        rw [gd_true (show seen.length + [p[i].2.2.2.2.1].length ≤ lim (.int .i64) by simp; omega)]
        exact fin _ (by simp [seenN, hm])
theorem ren_v {N : Nat} {p : List Nd} (hf : Fits p) (hN : 1048576 < N) : ∃ r : List Nd × Bool, F17 N p = some r ∧ F16 N p = some r ∧ r.1.length ≤ 1048576 ∧ (∀ x ∈ r.1, x.2.2.2.2.2.2.length ≤ 1048576) := by
  obtain ⟨b, h1, h2, h3⟩ := planOk_v hf hN
  have hs := hf.1
  unfold F17 F16
  rw [h1, h2, andO_of, andO_of]
  cases b with
  | false => exact ⟨([], false), rfl, rfl, by simp, fun x hx => by cases hx⟩
  | true =>
    simp only [Bool.not_true, cond_false]
    have h40 := (h3 rfl).1
    rw [own_v hf hN, l02Copy_v hf hN, andO_of, andO_of]
    have e1 := iRen_l N p.length (by omega) hN p.length N 0 p [] rfl (by omega) (by omega) (by simp)
    have e2 := sRen_l N p (by omega) hN p.length N 0 p [] rfl (by omega) (by omega) (by simp) (by simp) (fun _ _ => rfl)
    rw [show (((0 : Nat)) : Int) = 0 from rfl] at e1 e2
    obtain ⟨k1, k2⟩ := renL_keep (fun x => x.2.2.2.2.2.2.length ≤ 1048576) (fun x v h => h) (by simp [dN]) p.length 0 p [] (fun x hx => (hf.2 x hx).2)
    exact ⟨_, e1, e2, by show (renL _ _ _ _).length ≤ _; omega, k2⟩
theorem lawFnExactRenumber (a : List Nd) (h : (Ty.sl ndT).wf a) : ∃ N, F4 N a = some true := by
  refine ⟨3000000, ?_⟩
  unfold F4
  obtain ⟨r, e1, e2, e3, e4⟩ := szNodeS_v (N := 3000000) (l := 1048576) (len_of h) (by omega) (by omega) (by omega)
  rw [e1, andO_of]
  by_cases hr : r < 0
  · rw [decide_eq_true hr, cond_true]
  · have hf := e4 (by omega)
    have hs := hf.1
    have hfc : ∀ x ∈ a, x.2.2.2.2.2.2.length ≤ 1048576 := fun x hx => (hf.2 x hx).2
    obtain ⟨q, h1, h2, hq, hqc⟩ := ren_v (N := 3000000) hf (by omega)
    have m1 := markNodeX_v (N := 3000000) hs hfc (by omega)
    have m2 := markNodeX_v (N := 3000000) hq hqc (by omega)
    have m3 := heldNodeX_v (N := 3000000) hq hqc (by omega)
    have k1 := markK_ge a 1
    have k3 := markK_ge q.1 1
    rw [decide_eq_false hr, cond_false]
    simp only [toNodeS_v (N := 3000000) hf (by omega), andO_of, h1, h2, eqNodeC_r (N := 3000000) hq hqc (by omega), beq_self_eq_true, Bool.not_true, cond_false, eqNodeS_r (N := 3000000) hf (by omega),
      m1, dlt (show 0 ≤ markK a 1 by omega), m2, m3, dlt (show 0 ≤ markK q.1 1 by omega), bne_self_eq_false]
end Go.Proofs.Ytckcbjaldmlomaa.Vc
