/- Plain lemmas on what the functions compute, and the law. -/
import Derived.Test.YtpaagnjoniiemaaGreatZa
namespace Go.Proofs.YtpaagnjoniiemaaGreat.Vc
open Go Go.RowKit
set_option linter.unusedVariables false
set_option linter.unusedSimpArgs false
theorem sEval_j {N : Nat} {s : List Tb} {rows : List (List Rw)} {nd : Nd} {ins : List (List Rw)} (hs : TabW s) (hst : StP s rows) (hN : 1048576 < N) (hn : nodeB nd = true) (hin : InP s nd ins) :
  F32_j2 N s rows nd.1 nd.2.1 nd.2.2.1 nd.2.2.2.1 nd.2.2.2.2.1 nd.2.2.2.2.2.1 nd.2.2.2.2.2.2 ins = some (evK s rows nd ins, decide (((evK s rows nd ins).length : Int) ≤ 200)) := by
 unfold F32_j2
 have hk := kind_of hn
 have hcase : nd.1 = 0 ∨ nd.1 = 1 ∨ nd.1 = 2 ∨ nd.1 = 3 ∨ nd.1 = 4 ∨ nd.1 = 5 ∨ nd.1 = 6 ∨ nd.1 = 7 := by omega
 show _ = F32_j0 N (evK s rows nd ins)
 unfold evK
 have tup : (nd.1, (nd.2.1, (nd.2.2.1, (nd.2.2.2.1, (nd.2.2.2.2.1, (nd.2.2.2.2.2.1, nd.2.2.2.2.2.2)))))) = nd := rfl
 rw [tup]
 rcases hcase with e | e | e | e | e | e | e | e
 ·obtain ⟨j, h1, h2⟩ := find_of hs hin e
  have hj : j < rows.length := by rw [hst.len]; exact h1
  simp only [e, beq_self_eq_true, cond_true]
  rw [findT_v (by have := hs.1; omega) hN, andO_of, h2, gd_true (inR hj)]
  simp only [Int.toNat_natCast, getD_at hj]
 ·obtain ⟨A, rfl, hA, hA2⟩ := one_of hin (by rw [e]; rfl)
  obtain ⟨h1, h2, h3⟩ := filter_of hn e
  obtain ⟨c, hc⟩ := natOf h1
  have hw := wide1_of hin (.inl e) hc
  simp only [e, show ((1 : Int) == 0) = false from rfl, beq_self_eq_true, cond_true, cond_false, gd_true in0, gd_true lt0, gt0, List.getD_cons_zero]
  rw [sFilter_v (by omega) nd c hc A (by omega) hw, andO_of, hc]
  simp only [Int.toNat_natCast]
 ·obtain ⟨A, rfl, hA, hA2⟩ := one_of hin (by rw [e]; rfl)
  have hc := cols_of hin hn e
  have hcl := (keep_cols hn e).2.1
  simp only [e, show ((2 : Int) == 0) = false from rfl, show ((2 : Int) == 1) = false from rfl, beq_self_eq_true, cond_true, cond_false, gd_true in0, gd_true lt0, gt0, List.getD_cons_zero]
  rw [sKeep_v (by omega) nd (by omega) A (by omega) hc, andO_of]
 ·obtain ⟨A, B, rfl, ⟨hA, hA2⟩, ⟨hB, hB2⟩⟩ := two_of hin (by rw [e]; rfl)
  obtain ⟨h1, h2⟩ := join_of hn e
  obtain ⟨c, hc⟩ := natOf h1
  obtain ⟨d, hd⟩ := natOf h2
  obtain ⟨w1, w2⟩ := wide2_of hin e hc hd
  simp only [e, show ((3 : Int) == 0) = false from rfl, show ((3 : Int) == 1) = false from rfl, show ((3 : Int) == 2) = false from rfl, beq_self_eq_true, cond_true, cond_false, gd_true in0, gd_true lt0, gt0, gd_true in1, gd_true lt1, gt1, List.getD_cons_zero, List.getD_cons_succ]
  rw [sJoin_v hN nd c d hc hd A B hA hB w1 hA2 w2 hB2, andO_of, hc, hd]
  simp only [Int.toNat_natCast]
 ·obtain ⟨A, B, rfl, ⟨hA, hA2⟩, ⟨hB, hB2⟩⟩ := two_of hin (by rw [e]; rfl)
  simp only [e, show ((4 : Int) == 0) = false from rfl, show ((4 : Int) == 1) = false from rfl, show ((4 : Int) == 2) = false from rfl, show ((4 : Int) == 3) = false from rfl, beq_self_eq_true, cond_true, cond_false, List.getD_cons_zero, List.getD_cons_succ]
  exact sBoth_v (by omega) A B (by omega) (by omega)
 ·obtain ⟨A, rfl, hA, hA2⟩ := one_of hin (by rw [e]; rfl)
  obtain ⟨c, hc⟩ := natOf (sort_of hn e)
  have hw := wide1_of hin (.inr e) hc
  have hc64 : c < 1000000 ∨ A = [] := by
   cases A with
   | nil => exact .inr rfl
   | cons r A => have h1 := hw r List.mem_cons_self; have h2 := hA2 r List.mem_cons_self; exact .inl (by omega)
  have hc1 : c < 1000000 := by
   have hc2 : nd.2.2.1 ≤ 63 := by
    obtain ⟨k, nm, col, op, num, sl, cols⟩ := nd
    simp only at e
    subst e
    simp only [nodeB] at hn
    simp at hn
    simp only
    omega
   omega
  simp only [e, show ((5 : Int) == 0) = false from rfl, show ((5 : Int) == 1) = false from rfl, show ((5 : Int) == 2) = false from rfl, show ((5 : Int) == 3) = false from rfl, show ((5 : Int) == 4) = false from rfl, beq_self_eq_true, cond_true, cond_false, gd_true in0, gd_true lt0, gt0, List.getD_cons_zero]
  rw [l04Sort_v c hc1 nd hc A (by omega) (by omega) hw, andO_of, hc]
  simp only [Int.toNat_natCast]
 ·obtain ⟨A, rfl, hA, hA2⟩ := one_of hin (by rw [e]; rfl)
  have h0 := limit_of hn e
  simp only [e, show ((6 : Int) == 0) = false from rfl, show ((6 : Int) == 1) = false from rfl, show ((6 : Int) == 2) = false from rfl, show ((6 : Int) == 3) = false from rfl, show ((6 : Int) == 4) = false from rfl, show ((6 : Int) == 5) = false from rfl, beq_self_eq_true, cond_true, cond_false, gd_true in0, gd_true lt0, gt0, List.getD_cons_zero]
  change (cond (decide (nd.2.2.2.2.1 < (A.length : Int))) (gd (0 ≤ nd.2.2.2.2.1 ∧ nd.2.2.2.2.1 ≤ (A.length : Int)) (F32_j0 N (A.take nd.2.2.2.2.1.toNat))) (F32_j0 N A)) = _
  by_cases hl : nd.2.2.2.2.1 < (A.length : Int)
  ·rw [decide_eq_true hl, cond_true, gd_true (by omega)]
  ·rw [decide_eq_false hl, cond_false, List.take_of_length_le (by omega)]
 ·obtain ⟨A, rfl, hA, hA2⟩ := one_of hin (by rw [e]; rfl)
  simp only [e, show ((7 : Int) == 0) = false from rfl, show ((7 : Int) == 1) = false from rfl, show ((7 : Int) == 2) = false from rfl, show ((7 : Int) == 3) = false from rfl, show ((7 : Int) == 4) = false from rfl, show ((7 : Int) == 5) = false from rfl, show ((7 : Int) == 6) = false from rfl, beq_self_eq_true, cond_true, cond_false, gd_true in0, gd_true lt0, gt0, List.getD_cons_zero]
  rw [sOnce_v (by omega) A (by omega) hA2, andO_of]
theorem sEval_l (N : Nat) (s : List Tb) (rows : List (List Rw)) (p : List Nd) (nd : Nd) (self : List Tb → List (List Rw) → List Nd → Int → Option (List Rw × Bool)) (ks : List Nat) (g : Nat → List Rw × Bool) (hks : ks.length ≤ 2) (hself : ∀ c ∈ ks, self s rows p (c : Int) = some (g c)) :
  ∀ (m k i : Nat) (out : List (List Rw)), i + m = ks.length → m < k → out.length ≤ i →
  F32_l2 N s rows p self (ks.map fun (c : Nat) => (c : Int)) k nd.1 nd.2.1 nd.2.2.1 nd.2.2.2.1 nd.2.2.2.2.1 nd.2.2.2.2.2.1 nd.2.2.2.2.2.2 out (i : Int) = match evB g (ks.drop i) with
   | none => some ([], false)
   | some l => F32_j2 N s rows nd.1 nd.2.1 nd.2.2.1 nd.2.2.2.1 nd.2.2.2.2.1 nd.2.2.2.2.2.1 nd.2.2.2.2.2.2 (out ++ l) := by
 have hlim := lim_rr
 intro m
 induction m with
 | zero =>
  intro k i out h hk ho
  rw [F32_l2_s _ _ _ _ _ _ (by omega), F32_l2_b, List.length_map, decide_eq_false (show ¬ (i : Int) < (ks.length : Int) by omega), cond_false, List.drop_eq_nil_of_le (by omega)]
  simp only [evB, List.append_nil]
 | succ m ih =>
  intro k i out h hk ho
  have hi : i < ks.length := by omega
  have hi' : i < (ks.map fun (c : Nat) => (c : Int)).length := by rw [List.length_map]; exact hi
  rw [F32_l2_s _ _ _ _ _ _ (by omega), F32_l2_b, decide_eq_true (show (i : Int) < ((ks.map fun (c : Nat) => (c : Int)).length : Int) by omega), cond_true, gd_true (inR hi')]
  simp only [Int.toNat_natCast, gd_true hi', getD_at hi', List.getElem_map]
  rw [hself _ (List.getElem_mem hi), andO_of, List.drop_eq_getElem_cons hi, evB]
  cases hg : (g ks[i]).2 with
  | false => rfl
  | true =>
   rw [Bool.not_true, cond_false, cond_true, gd_true (show out.length + [(g ks[i]).1].length ≤ lim (.sl (.sl (.int .i64))) by rw [List.length_singleton]; omega), w64 (by omega) (by omega), show ((i : Int) + 1) = ((i + 1 : Nat) : Int) by omega, ih (k - 1) (i + 1) _ (by omega) (by omega) (by rw [List.length_append, List.length_singleton]; omega)]
   cases evB g (ks.drop (i + 1)) with
   | none => rfl
   | some l => simp
theorem sEval_r (N : Nat) (s : List Tb) (rows : List (List Rw)) (p : List Nd) (hs : TabW s) (hst : StP s rows) (h : Tr p) (hN : 1048576 < N) : ∀ (f k x : Nat), p.length < x + f → f < k → x < p.length → 0 ≤ W s p x → F32_r N k s rows p (x : Int) = some (evl s rows p f x) := by
 intro f
 induction f with
 | zero => intro k x h1 h2 h3; omega
 | succ f ih =>
  intro k x h1 h2 h3 h4
  have hkl := kids_len h h3
  have har := arN_le (p.getD x nD).1
  have hd := W_down hs h hN h3 h4
  rw [F32_s _ (by omega), F32_b, sKids_v h hN h3, andO_of, gd_true (inR h3)]
  simp only [Int.toNat_natCast]
  have hl := sEval_l N s rows p (p.getD x nD) (F32_r N (k - 1)) (kids p x) (evl s rows p f) (by omega) (fun c hc => by
   have := kids_mem h h3 hc
   exact ih (k - 1) c (by omega) (by omega) this.2 (hd.1 c hc)) (kids p x).length N 0 [] (by omega) (by omega) (by simp)
  rw [show (((0 : Nat)) : Int) = 0 from rfl, List.drop_zero] at hl
  simp only [List.nil_append] at hl
  simp only [getD_at h3] at hl ⊢
  rw [hl, evl]
  cases hb : evB (evl s rows p f) (kids p x) with
  | none => rfl
  | some ins =>
   have e1 := h.at h3
   have e2 := inP_of hs hst h hN h3 h4 hb
   rw [getD_at h3] at e1 e2
   simp only [getD_at h3]
   exact sEval_j hs hst hN e1 e2
theorem sEval_v {N : Nat} {s : List Tb} {rows : List (List Rw)} {p : List Nd} (hs : TabW s) (hst : StP s rows) (h : Tr p) (hN : 1048576 < N) {x : Nat} (hx : x < p.length) (hw : 0 ≤ W s p x) : F32 N s rows p (x : Int) = some (E s rows p x) :=
 sEval_r N s rows p hs hst h hN 42 N x (by have := h.len; omega) (by omega) hx hw
theorem sEvPlan_l {N : Nat} (s : List Tb) (rows : List (List Rw)) (p : List Nd) (hp : p.length ≤ 1048576) : ∀ (d k i : Nat), i + d = p.length → d < k →
  F8_l0 N s rows p k (i : Int) = cond ((p.drop i).any fun x => x.2.2.2.2.2.1) (some ([], 1)) (F8_j0 N s rows p) := by
 intro d
 induction d with
 | zero =>
  intro k i h hk
  rw [F8_l0_s _ _ _ _ (by omega), F8_l0_b, decide_eq_false (show ¬ (i : Int) < (p.length : Int) by omega), cond_false, List.drop_eq_nil_of_le (by omega)]
  rfl
 | succ d ih =>
  intro k i h hk
  have hi : i < p.length := by omega
  rw [F8_l0_s _ _ _ _ (by omega), F8_l0_b, decide_eq_true (show (i : Int) < (p.length : Int) by omega), cond_true, gd_true (inR hi)]
  simp only [Int.toNat_natCast, getD_at hi]
  rw [w64 (by omega) (by omega), show (i : Int) + 1 = ((i + 1 : Nat) : Int) by omega, ih (k - 1) (i + 1) (by omega) (by omega), List.drop_eq_getElem_cons hi, List.any_cons]
  cases p[i].2.2.2.2.2.1 <;> rfl
theorem evalPlan_v {N : Nat} {s : List Tb} {rows : List (List Rw)} {p : List Nd} (hfs : FitsT s) (hr : FitsR rows) (hf : Fits p) (hN : 1048576 < N) : ∃ r : List Rw × Int, F12 N s rows p = some r ∧ F8 N s rows p = some r ∧ r.1.length ≤ 200 ∧ (∀ x ∈ r.1, x.length ≤ 100) ∧ (r.2 = 0 → TabW s ∧ StP s rows ∧ Tr p ∧ 0 ≤ W s p 0) := by
 obtain ⟨b1, h1, h2, h3⟩ := store_v hfs hr hN
 obtain ⟨b2, h4, h5, h6⟩ := typed_v hfs hf hN
 have hp := hf.1
 unfold F12 F8
 rw [h1, h2, andO_of, andO_of]
 cases b1 with
 | false => exact ⟨([], 1), rfl, rfl, by simp, fun x hx => (by cases hx), fun h => by cases h⟩
 | true =>
  simp only [Bool.not_true, cond_false]
  rw [h4, h5, andO_of, andO_of]
  cases b2 with
  | false => exact ⟨([], 1), rfl, rfl, by simp, fun x hx => (by cases hx), fun h => by cases h⟩
  | true =>
   simp only [Bool.not_true, cond_false]
   obtain ⟨hs, ht, hw⟩ := h6 rfl
   have hst := h3 rfl
   have hl := sEvPlan_l (N := N) s rows p hp p.length N 0 (by omega) (by omega)
   rw [show (((0 : Nat)) : Int) = 0 from rfl, List.drop_zero] at hl
   rw [hl, slotAny_v hN hp, andO_of]
   cases (p.any fun x => x.2.2.2.2.2.1) with
   | true => exact ⟨([], 1), rfl, rfl, by simp, fun x hx => (by cases hx), fun h => by cases h⟩
   | false =>
    have h0 : 0 < p.length := by have := (en_le p 10 0 _ ht.whole).1; omega
    have e1 : F40 N s rows p (0 : Int) = some (E s rows p 0) := iEval_v hs hst ht hN (x := 0) h0 hw
    have e2 : F32 N s rows p (0 : Int) = some (E s rows p 0) := sEval_v hs hst ht hN (x := 0) h0 hw
    rw [cond_false, cond_false, F8_j0, e1, e2, andO_of, andO_of]
    have hof : Of (W s p 0) (E s rows p 0).1 ∧ (E s rows p 0).1.length ≤ 40000 ∧ ((E s rows p 0).2 = true → (E s rows p 0).1.length ≤ 200) := evl_of hs hst ht hN 42 0 h0 hw
    have hwr : W s p 0 ≤ 64 := (wdf_range hs ht 42 0 h0).2
    cases hb : (E s rows p 0).2 with
    | false => exact ⟨([], 2), rfl, rfl, by simp, fun x hx => (by cases hx), fun h => by cases h⟩
    | true =>
     have hlen := hof.2.2 hb
     have hrow : ∀ x ∈ (E s rows p 0).1, x.length ≤ 100 := fun x hx => by have := hof.1 x hx; omega
     rw [Bool.not_true, cond_false, cond_false, ownRows_v _ (by omega) (fun x hx => by have := hrow x hx; omega) (by omega), l04Copy_v _ (by omega) (fun x hx => by have := hrow x hx; omega) (by omega)]
     exact ⟨((E s rows p 0).1, 0), rfl, rfl, hlen, hrow, fun _ => ⟨hs, hst, ht, hw⟩⟩
end Go.Proofs.YtpaagnjoniiemaaGreat.Vc
namespace Go.Proofs.YtpaagnjoniiemaaGreat.Vc
open Go Go.RowKit
set_option linter.unusedVariables false
set_option linter.unusedSimpArgs false
def tot2 : List Rw → Nat
 | [] => 0
 | r :: l => r.length + tot2 l
def tot3 : List (List Rw) → Nat
 | [] => 0
 | t :: l => t.length + tot2 t + tot3 l
theorem tot2_mem : ∀ {l : List Rw} {r : Rw}, r ∈ l → r.length ≤ tot2 l
 | x :: l, r, h => by
  simp only [tot2]
  rcases List.mem_cons.1 h with rfl | h
  ·omega
  ·have := tot2_mem h; omega
theorem tot3_mem : ∀ {l : List (List Rw)} {t : List Rw}, t ∈ l → t.length + tot2 t ≤ tot3 l
 | x :: l, t, h => by
  simp only [tot3]
  rcases List.mem_cons.1 h with rfl | h
  ·omega
  ·have := tot3_mem h; omega
theorem fitsR_of {rows : List (List Rw)} (h : rows.length + tot3 rows ≤ 1048576) : FitsR rows :=
 ⟨by omega, fun t ht => by have := tot3_mem ht; omega, fun t ht r hr => by have := tot3_mem ht; have := tot2_mem hr; omega⟩
def LenR (A : List (List Rw)) : Prop := A.length ≤ 9223372036854775807 ∧ ∀ t ∈ A, t.length ≤ 9223372036854775807 ∧ ∀ r ∈ t, r.length ≤ 9223372036854775807
theorem lenR_of {A : List (List Rw)} (h : (Ty.sl (.sl (.sl (.int .i64)))).wf A) : LenR A := ⟨h.1, fun t ht => ⟨(h.2 t ht).1, fun r hr => ((h.2 t ht).2 r hr).1⟩⟩
def upR : Int → List Rw → List Rw
 | _, [] => []
 | m, r :: l => upFrom m r.length :: upR (m + r.length) l
theorem midD {α : Type} (u : List α) (x d : α) (r : List α) : (u ++ x :: r).getD u.length d = x := by simp [List.getD]
theorem midS {α : Type} (u : List α) (x y : α) (r : List α) : (u ++ x :: r).set u.length y = u ++ y :: r := by simp
theorem midL {α : Type} (u : List α) (x : α) (r : List α) : u.length < (u ++ x :: r).length := by simp
theorem szIntSS_l {N : Nat} (A : List Rw) (ha : A.length ≤ 1048576) (hr : ∀ r ∈ A, r.length ≤ 9223372036854775807) : ∀ (d k i : Nat) (l : Int), i + d = A.length → d < k → 0 ≤ l → l ≤ 1048576 →
  ∃ q : Int, F28_l0 N A k l (i : Int) = some q ∧ (q < 0 ∨ (0 ≤ q ∧ q + tot2 (A.drop i) = l)) := by
 intro d
 induction d with
 | zero =>
  intro k i l h hk h0 h1
  refine ⟨l, ?_, .inr ⟨h0, ?_⟩⟩
  ·rw [F28_l0_s _ _ (by omega), F28_l0_b, decide_eq_false (show ¬ (i : Int) < (A.length : Int) by omega), cond_false]
   rfl
  ·rw [List.drop_eq_nil_of_le (by omega)]
   simp [tot2]
 | succ d ih =>
  intro k i l h hk h0 h1
  have hi : i < A.length := by omega
  rw [F28_l0_s _ _ (by omega), F28_l0_b, decide_eq_true (show (i : Int) < (A.length : Int) by omega), cond_true, gd_true (inR hi)]
  simp only [Int.toNat_natCast, getD_at hi]
  rw [szIntS_v h0 h1 (hr _ (List.getElem_mem hi)), andO_of, List.drop_eq_getElem_cons hi]
  by_cases hl : (A[i].length : Int) ≤ l
  ·obtain ⟨q, e1, e2⟩ := ih (k - 1) (i + 1) (l - A[i].length) (by omega) (by omega) (by omega) (by omega)
   rw [if_pos hl, decide_eq_false (show ¬ l - (A[i].length : Int) < 0 by omega), cond_false, w64 (by omega) (by omega), show (i : Int) + 1 = ((i + 1 : Nat) : Int) by omega]
   refine ⟨q, e1, e2.imp id fun h => ⟨h.1, ?_⟩⟩
   simp only [tot2]
   omega
  ·rw [if_neg hl]
   exact ⟨-1, rfl, .inl (by omega)⟩
theorem szIntSS_v {N : Nat} (hN : 1048576 < N) (A : List Rw) (ha : A.length ≤ 9223372036854775807) (hr : ∀ r ∈ A, r.length ≤ 9223372036854775807) {l : Int} (h0 : 0 ≤ l) (h1 : l ≤ 1048576) :
  ∃ q : Int, F28 N A l = some q ∧ (q < 0 ∨ (0 ≤ q ∧ q + (A.length + tot2 A : Nat) = l)) := by
 unfold F28
 rw [w64 (by omega) (by omega)]
 by_cases hl : l - (A.length : Int) < 0
 ·rw [decide_eq_true hl]; exact ⟨-1, rfl, .inl (by omega)⟩
 ·obtain ⟨q, e1, e2⟩ := szIntSS_l (N := N) A (by omega) hr A.length N 0 (l - A.length) (by omega) (by omega) (by omega) (by omega)
  rw [decide_eq_false hl, cond_false]
  refine ⟨q, e1, e2.imp id fun h => ⟨h.1, ?_⟩⟩
  have := h.2
  rw [List.drop_zero] at this
  omega
theorem szIntT_l {N : Nat} (hN : 1048576 < N) (A : List (List Rw)) (ha : A.length ≤ 1048576) (hr : ∀ t ∈ A, t.length ≤ 9223372036854775807 ∧ ∀ r ∈ t, r.length ≤ 9223372036854775807) : ∀ (d k i : Nat) (l : Int), i + d = A.length → d < k → 0 ≤ l → l ≤ 1048576 →
  ∃ q : Int, F6_l0 N A k l (i : Int) = some q ∧ (q < 0 ∨ (0 ≤ q ∧ q + tot3 (A.drop i) = l)) := by
 intro d
 induction d with
 | zero =>
  intro k i l h hk h0 h1
  refine ⟨l, ?_, .inr ⟨h0, ?_⟩⟩
  ·rw [F6_l0_s _ _ (by omega), F6_l0_b, decide_eq_false (show ¬ (i : Int) < (A.length : Int) by omega), cond_false]
   rfl
  ·rw [List.drop_eq_nil_of_le (by omega)]
   simp [tot3]
 | succ d ih =>
  intro k i l h hk h0 h1
  have hi : i < A.length := by omega
  have hm := hr _ (List.getElem_mem hi)
  rw [F6_l0_s _ _ (by omega), F6_l0_b, decide_eq_true (show (i : Int) < (A.length : Int) by omega), cond_true, gd_true (inR hi)]
  simp only [Int.toNat_natCast, getD_at hi]
  obtain ⟨y, f1, f2⟩ := szIntSS_v hN A[i] hm.1 hm.2 h0 h1
  rw [f1, andO_of, List.drop_eq_getElem_cons hi]
  rcases f2 with f2 | ⟨f2, f3⟩
  ·rw [decide_eq_true f2]; exact ⟨-1, rfl, .inl (by omega)⟩
  ·obtain ⟨q, e1, e2⟩ := ih (k - 1) (i + 1) y (by omega) (by omega) (by omega) (by omega)
   rw [decide_eq_false (show ¬ y < 0 by omega), cond_false, w64 (by omega) (by omega), show (i : Int) + 1 = ((i + 1 : Nat) : Int) by omega]
   refine ⟨q, e1, e2.imp id fun h => ⟨h.1, ?_⟩⟩
   simp only [tot3]
   omega
theorem szIntT_v {N : Nat} (hN : 1048576 < N) (A : List (List Rw)) (hL : LenR A) {l : Int} (h0 : 0 ≤ l) (h1 : l ≤ 1048576) :
  ∃ q : Int, F6 N A l = some q ∧ q ≤ l ∧ (0 ≤ q → A.length + tot3 A ≤ 1048576) := by
 have ha := hL.1
 unfold F6
 rw [w64 (by omega) (by omega)]
 by_cases hl : l - (A.length : Int) < 0
 ·rw [decide_eq_true hl]; exact ⟨-1, rfl, by omega, fun h => absurd h (by omega)⟩
 ·obtain ⟨q, e1, e2⟩ := szIntT_l hN A (by omega) hL.2 A.length N 0 (l - A.length) (by omega) (by omega) (by omega) (by omega)
  rw [decide_eq_false hl, cond_false]
  rw [List.drop_zero] at e2
  exact ⟨q, e1, by omega, fun h => by omega⟩
theorem toIntSS_l {N : Nat} (A : List Rw) (ha : A.length ≤ 1048576) (hr : ∀ r ∈ A, r.length ≤ 1048576) (hN : 1048576 < N) : ∀ (d k i : Nat) (u : List Rw), i + d = A.length → u.length = d → d < k → F35_l0 N A k (A.take i ++ u) (i : Int) = some A := by
 intro d
 induction d with
 | zero =>
  intro k i u h hu hk
  rw [F35_l0_s _ _ (by omega), F35_l0_b, decide_eq_false (show ¬ (i : Int) < (A.length : Int) by omega), cond_false]
  obtain rfl : u = [] := List.length_eq_zero_iff.mp hu
  rw [List.append_nil, List.take_of_length_le (by omega)]
  rfl
 | succ d ih =>
  intro k i u h hu hk
  have hi : i < A.length := by omega
  have hx := hr _ (List.getElem_mem hi)
  obtain ⟨y, v, rfl⟩ : ∃ y v, u = y :: v := by cases u with
   | nil => simp at hu
   | cons y v => exact ⟨y, v, rfl⟩
  have hl : (A.take i).length = i := by rw [List.length_take]; omega
  have hm : i < (A.take i ++ y :: v).length := by rw [List.length_append, hl, List.length_cons]; omega
  rw [F35_l0_s _ _ (by omega), F35_l0_b, decide_eq_true (show (i : Int) < (A.length : Int) by omega), cond_true, gd_true (inR hi)]
  simp only [Int.toNat_natCast, getD_at hi]
  rw [toIntS_v (by omega) (by omega), andO_of, gd_true (inR hm), gd_true hm, w64 (by omega) (by omega), show (i : Int) + 1 = ((i + 1 : Nat) : Int) by omega]
  have hs : (A.take i ++ y :: v).set i A[i] = A.take (i + 1) ++ v := by
   have := midS (A.take i) y A[i] v
   rw [hl] at this
   rw [this, List.take_succ_eq_append_getElem hi, List.append_assoc]
   rfl
  rw [hs]
  exact ih (k - 1) (i + 1) v (by omega) (by simpa using hu) (by omega)
theorem toIntSS_v {N : Nat} {A : List Rw} (ha : A.length ≤ 1048576) (hr : ∀ r ∈ A, r.length ≤ 1048576) (hN : 1048576 < N) : F35 N A = some A := by
 have hlim := lim_rw
 unfold F35
 rw [gd_true ⟨by omega, by omega, rfl⟩]
 have := toIntSS_l (N := N) A ha hr hN A.length N 0 (List.replicate A.length (Ty.dflt (.sl (.int .i64)))) (by omega) (by simp) (by omega)
 rw [List.take_zero, List.nil_append] at this
 exact this
theorem lim_rt : 1048576 ≤ lim (.sl (.sl (.int .i64))) := by decide +kernel
theorem toIntT_l {N : Nat} (A : List (List Rw)) (hf : FitsR A) (hN : 1048576 < N) : ∀ (d k i : Nat) (u : List (List Rw)), i + d = A.length → u.length = d → d < k → F10_l0 N A k (A.take i ++ u) (i : Int) = some A := by
 have ha := hf.a
 intro d
 induction d with
 | zero =>
  intro k i u h hu hk
  rw [F10_l0_s _ _ (by omega), F10_l0_b, decide_eq_false (show ¬ (i : Int) < (A.length : Int) by omega), cond_false]
  obtain rfl : u = [] := List.length_eq_zero_iff.mp hu
  rw [List.append_nil, List.take_of_length_le (by omega)]
  rfl
 | succ d ih =>
  intro k i u h hu hk
  have hi : i < A.length := by omega
  have hb := hf.b _ (List.getElem_mem hi)
  have hc := hf.c _ (List.getElem_mem hi)
  obtain ⟨y, v, rfl⟩ : ∃ y v, u = y :: v := by cases u with
   | nil => simp at hu
   | cons y v => exact ⟨y, v, rfl⟩
  have hl : (A.take i).length = i := by rw [List.length_take]; omega
  have hm : i < (A.take i ++ y :: v).length := by rw [List.length_append, hl, List.length_cons]; omega
  rw [F10_l0_s _ _ (by omega), F10_l0_b, decide_eq_true (show (i : Int) < (A.length : Int) by omega), cond_true, gd_true (inR hi)]
  simp only [Int.toNat_natCast, getD_at hi]
  rw [toIntSS_v hb hc hN, andO_of, gd_true (inR hm), gd_true hm, w64 (by omega) (by omega), show (i : Int) + 1 = ((i + 1 : Nat) : Int) by omega]
  have hs : (A.take i ++ y :: v).set i A[i] = A.take (i + 1) ++ v := by
   have := midS (A.take i) y A[i] v
   rw [hl] at this
   rw [this, List.take_succ_eq_append_getElem hi, List.append_assoc]
   rfl
  rw [hs]
  exact ih (k - 1) (i + 1) v (by omega) (by simpa using hu) (by omega)
theorem toIntT_v {N : Nat} {A : List (List Rw)} (hf : FitsR A) (hN : 1048576 < N) : F10 N A = some A := by
 have hlim := lim_rt
 have ha := hf.a
 unfold F10
 rw [gd_true ⟨by omega, by omega, rfl⟩]
 have := toIntT_l (N := N) A hf hN A.length N 0 (List.replicate A.length (Ty.dflt (.sl (.sl (.int .i64))))) (by omega) (by simp) (by omega)
 rw [List.take_zero, List.nil_append] at this
 exact this
theorem eqIntSS_r {N : Nat} {A : List Rw} (ha : A.length ≤ 1048576) (hr : ∀ r ∈ A, r.length ≤ 1048576) (hN : 1048576 < N) : F13 N A A = some true := by
 have key : ∀ (d k i : Nat), i + d = A.length → d < k → F13_l0 N A A k (i : Int) = some true := by
  intro d
  induction d with
  | zero =>
   intro k i h hk
   rw [F13_l0_s _ _ _ (by omega), F13_l0_b, decide_eq_false (show ¬ (i : Int) < (A.length : Int) by omega), cond_false]
   rfl
  | succ d ih =>
   intro k i h hk
   have hi : i < A.length := by omega
   have hx := hr _ (List.getElem_mem hi)
   rw [F13_l0_s _ _ _ (by omega), F13_l0_b, decide_eq_true (show (i : Int) < (A.length : Int) by omega), cond_true, gd_true (inR hi), gd_true (inR hi)]
   simp only [Int.toNat_natCast, getD_at hi]
   rw [eqIntS_v (by omega) (by omega), decide_eq_true rfl, andO_of, Bool.not_true, cond_false, w64 (by omega) (by omega), show (i : Int) + 1 = ((i + 1 : Nat) : Int) by omega]
   exact ih (k - 1) (i + 1) (by omega) (by omega)
 unfold F13
 rw [bne_self_eq_false, cond_false]
 exact key A.length N 0 (by omega) (by omega)
theorem eqIntT_r {N : Nat} {A : List (List Rw)} (hf : FitsR A) (hN : 1048576 < N) : F15 N A A = some true := by
 have ha := hf.a
 have key : ∀ (d k i : Nat), i + d = A.length → d < k → F15_l0 N A A k (i : Int) = some true := by
  intro d
  induction d with
  | zero =>
   intro k i h hk
   rw [F15_l0_s _ _ _ (by omega), F15_l0_b, decide_eq_false (show ¬ (i : Int) < (A.length : Int) by omega), cond_false]
   rfl
  | succ d ih =>
   intro k i h hk
   have hi : i < A.length := by omega
   have hb := hf.b _ (List.getElem_mem hi)
   have hc := hf.c _ (List.getElem_mem hi)
   rw [F15_l0_s _ _ _ (by omega), F15_l0_b, decide_eq_true (show (i : Int) < (A.length : Int) by omega), cond_true, gd_true (inR hi), gd_true (inR hi)]
   simp only [Int.toNat_natCast, getD_at hi]
   rw [eqIntSS_r hb hc hN, andO_of, Bool.not_true, cond_false, w64 (by omega) (by omega), show (i : Int) + 1 = ((i + 1 : Nat) : Int) by omega]
   exact ih (k - 1) (i + 1) (by omega) (by omega)
 unfold F15
 rw [bne_self_eq_false, cond_false]
 exact key A.length N 0 (by omega) (by omega)
theorem markIntSS_l {N : Nat} (hN : 1048576 < N) : ∀ (l u : List Rw) (k : Nat) (m : Int), l.length < k → u.length + l.length ≤ 1048576 → (∀ r ∈ l, r.length ≤ 1048576) → 0 ≤ m → m + tot2 l ≤ 100000000 →
  F20_l0 N k (u ++ l) m (u.length : Int) = some (u ++ upR m l, m + tot2 l) := by
 intro l
 induction l with
 | nil =>
  intro u k m hk hu hr h0 h1
  rw [F20_l0_s _ (by omega), F20_l0_b, List.append_nil, decide_eq_false (show ¬ (u.length : Int) < (u.length : Int) by omega), cond_false]
  simp [F20_j0, upR, tot2]
 | cons r l ih =>
  intro u k m hk hu hr h0 h1
  simp only [List.length_cons] at hk hu
  simp only [tot2] at h1 ⊢
  have hx := hr r List.mem_cons_self
  have hm := midL u r l
  rw [F20_l0_s _ (by omega), F20_l0_b, decide_eq_true (show (u.length : Int) < ((u ++ r :: l).length : Int) by omega), cond_true, gd_true (inR hm)]
  simp only [Int.toNat_natCast, gd_true hm, midD, midS]
  rw [markIntS_v (by omega) h0 (by omega), andO_of]
  dsimp only
  rw [w64 (by omega) (by omega)]
  have := ih (u ++ [upFrom m r.length]) (k - 1) (m + r.length) (by omega) (by simp; omega) (fun x hx => hr x (List.mem_cons_of_mem _ hx)) (by omega) (by omega)
  simp only [List.append_assoc, List.singleton_append, List.length_append, List.length_singleton] at this
  rw [show ((u.length : Int) + 1) = ((u.length + 1 : Nat) : Int) by omega, this, upR]
  congr 2
  omega
theorem markIntSS_v {N : Nat} (hN : 1048576 < N) {l : List Rw} {m : Int} (hl : l.length ≤ 1048576) (hr : ∀ r ∈ l, r.length ≤ 1048576) (h0 : 0 ≤ m) (h1 : m + tot2 l ≤ 100000000) : F20 N l m = some (upR m l, m + tot2 l) := by
 unfold F20
 have := markIntSS_l hN l [] N m (by omega) (by simp; omega) hr h0 h1
 simp only [List.nil_append, List.length_nil] at this
 exact this
theorem markIntT_l {N : Nat} (hN : 1048576 < N) : ∀ (l u : List (List Rw)) (k : Nat) (m : Int), l.length < k → u.length + l.length ≤ 1048576 → (∀ t ∈ l, t.length ≤ 1048576 ∧ ∀ r ∈ t, r.length ≤ 1048576) → 0 ≤ m → m + tot3 l ≤ 100000000 →
  ∃ q : List (List Rw) × Int, F18_l0 N k (u ++ l) m (u.length : Int) = some q ∧ m ≤ q.2 ∧ q.2 ≤ m + tot3 l := by
 intro l
 induction l with
 | nil =>
  intro u k m hk hu hr h0 h1
  refine ⟨(u, m), ?_, by simp, by simp [tot3]⟩
  rw [F18_l0_s _ (by omega), F18_l0_b, List.append_nil, decide_eq_false (show ¬ (u.length : Int) < (u.length : Int) by omega), cond_false]
  rfl
 | cons t l ih =>
  intro u k m hk hu hr h0 h1
  simp only [List.length_cons] at hk hu
  simp only [tot3] at h1 ⊢
  have hx := hr t List.mem_cons_self
  have hm := midL u t l
  rw [F18_l0_s _ (by omega), F18_l0_b, decide_eq_true (show (u.length : Int) < ((u ++ t :: l).length : Int) by omega), cond_true, gd_true (inR hm)]
  simp only [Int.toNat_natCast, gd_true hm, midD]
  rw [markIntSS_v hN hx.1 hx.2 h0 (by omega), andO_of]
  dsimp only
  rw [midS, w64 (by omega) (by omega)]
  obtain ⟨q, e1, e2, e3⟩ := ih (u ++ [upR m t]) (k - 1) (m + tot2 t) (by omega) (by simp; omega) (fun x hx => hr x (List.mem_cons_of_mem _ hx)) (by omega) (by omega)
  simp only [List.append_assoc, List.singleton_append, List.length_append, List.length_singleton] at e1
  refine ⟨q, ?_, by omega, by omega⟩
  rw [show ((u.length : Int) + 1) = ((u.length + 1 : Nat) : Int) by omega]
  exact e1
theorem markIntT_v {N : Nat} (hN : 1048576 < N) {l : List (List Rw)} {m : Int} (hf : FitsR l) (h0 : 0 ≤ m) (h1 : m + tot3 l ≤ 100000000) : ∃ q : List (List Rw) × Int, F18 N l m = some q ∧ m ≤ q.2 ∧ q.2 ≤ m + tot3 l := by
 unfold F18
 have ha := hf.a
 have := markIntT_l hN l [] N m (by omega) (by simp; omega) (fun t ht => ⟨hf.b t ht, hf.c t ht⟩) h0 h1
 simp only [List.nil_append, List.length_nil] at this
 exact this
theorem markNodeY_v {N : Nat} {l : List Nd} {m : Int} (hs : l.length ≤ 1048576) (hc : ∀ x ∈ l, x.2.2.2.2.2.2.length ≤ 1048576) (hN : 1048576 < N) (h0 : 0 ≤ m) (h1 : m ≤ 100000000) : F19 N l m = some (markL N l m, markK l m) := by
 unfold F19
 have := markNodeX_l N hN l [] N m (by omega) (by simp; omega) h0 (by omega) hc
 simp only [List.nil_append, List.length_nil] at this
 exact this
end Go.Proofs.YtpaagnjoniiemaaGreat.Vc
namespace Go.Proofs.YtpaagnjoniiemaaGreat.Vc
open Go Go.RowKit
set_option linter.unusedVariables false
set_option linter.unusedSimpArgs false
theorem allW {N : Nat} {s : List Tb} {p : List Nd} (hs : TabW s) (h : Tr p) (hN : 1048576 < N) (hw : 0 ≤ W s p 0) {k : Nat} (hk : k < p.length) : 0 ≤ W s p k :=
 (tree_all (p := p) (fun x => 0 ≤ W s p x) (fun x hx hR c hc => (W_down hs h hN hx hR).1 c hc) 10 0 p.length (Nat.le_refl _) h.whole hw k (Nat.zero_le _) hk).1
def szL (s : List Tb) (rows : List (List Rw)) (p : List Nd) (i : Nat) : Nat → List Int
 | 0 => []
 | d + 1 => ((E s rows p i).1.length : Int) :: szL s rows p (i + 1) d
theorem szL_len {s : List Tb} {rows : List (List Rw)} {p : List Nd} : ∀ (d i : Nat), (szL s rows p i d).length = d
 | 0, _ => rfl
 | d + 1, i => by simp only [szL, List.length_cons, szL_len d]
theorem iSizes_l {N : Nat} {s : List Tb} {rows : List (List Rw)} {p : List Nd} (hs : TabW s) (hst : StP s rows) (h : Tr p) (hN : 1048576 < N) (hw : 0 ≤ W s p 0) : ∀ (d k i : Nat) (out : List Int), i + d = p.length → d < k → out.length ≤ i →
  F23_l0 N s rows p k out (p.length : Int) (i : Int) = some (out ++ szL s rows p i d) := by
 have hlim := lim_i64
 have hp := h.len
 intro d
 induction d with
 | zero =>
  intro k i out hh hk ho
  rw [F23_l0_s _ _ _ _ (by omega), F23_l0_b, decide_eq_false (show ¬ (i : Int) < (p.length : Int) by omega), cond_false]
  simp [F23_j0, szL]
 | succ d ih =>
  intro k i out hh hk ho
  have hi : i < p.length := by omega
  rw [F23_l0_s _ _ _ _ (by omega), F23_l0_b, decide_eq_true (show (i : Int) < (p.length : Int) by omega), cond_true, iEval_v hs hst h hN hi (allW hs h hN hw hi), andO_of, gd_true (by rw [List.length_singleton]; omega), w64 (by omega) (by omega), show (i : Int) + 1 = ((i + 1 : Nat) : Int) by omega, ih (k - 1) (i + 1) _ (by omega) (by omega) (by rw [List.length_append, List.length_singleton]; omega), szL, List.append_assoc]
  rfl
theorem sSizes_l {N : Nat} {s : List Tb} {rows : List (List Rw)} {p : List Nd} (hs : TabW s) (hst : StP s rows) (h : Tr p) (hN : 1048576 < N) (hw : 0 ≤ W s p 0) : ∀ (d k i : Nat) (out : List Int), i + d = p.length → d < k → out.length ≤ i →
  F22_l0 N s rows p k out (i : Int) = some (out ++ szL s rows p i d) := by
 have hlim := lim_i64
 have hp := h.len
 intro d
 induction d with
 | zero =>
  intro k i out hh hk ho
  rw [F22_l0_s _ _ _ _ (by omega), F22_l0_b, decide_eq_false (show ¬ (i : Int) < (p.length : Int) by omega), cond_false]
  simp [F22_j0, szL]
 | succ d ih =>
  intro k i out hh hk ho
  have hi : i < p.length := by omega
  rw [F22_l0_s _ _ _ _ (by omega), F22_l0_b, decide_eq_true (show (i : Int) < (p.length : Int) by omega), cond_true, sEval_v hs hst h hN hi (allW hs h hN hw hi), andO_of, gd_true (by rw [List.length_singleton]; omega), w64 (by omega) (by omega), show (i : Int) + 1 = ((i + 1 : Nat) : Int) by omega, ih (k - 1) (i + 1) _ (by omega) (by omega) (by rw [List.length_append, List.length_singleton]; omega), szL, List.append_assoc]
  rfl
theorem sizes_v {N : Nat} {s : List Tb} {rows : List (List Rw)} {p : List Nd} (hfs : FitsT s) (hr : FitsR rows) (hf : Fits p) (hN : 1048576 < N) : ∃ q : List Int, F23 N s rows p = some q ∧ F22 N s rows p = some q ∧ q.length ≤ 1000 := by
 obtain ⟨r, h1, h2, _, _, h5⟩ := evalPlan_v hfs hr hf hN
 unfold F23 F22
 rw [h1, h2, andO_of, andO_of]
 by_cases h0 : r.2 = 0
 ·obtain ⟨hs, hst, ht, hw⟩ := h5 h0
  have hp := ht.len
  have e1 := iSizes_l hs hst ht hN hw p.length N 0 [] (by omega) (by omega) (by simp)
  have e2 := sSizes_l hs hst ht hN hw p.length N 0 [] (by omega) (by omega) (by simp)
  rw [show (r.2 != 0) = false by rw [h0]; rfl, cond_false, cond_false]
  exact ⟨_, e1, e2, by rw [List.nil_append, szL_len]; omega⟩
 ·rw [show (r.2 != 0) = true by simp [h0], cond_true, cond_true]
  exact ⟨[], rfl, rfl, by simp⟩
theorem lawFnExactSizesOf (s : List Tb) (rows : List (List Rw)) (a : List Nd) (hs0 : (Ty.sl tbT).wf s) (hr0 : (Ty.sl (.sl (.sl (.int .i64)))).wf rows) (h : (Ty.sl ndT).wf a) : ∃ N, F4 N s rows a = some true := by
 refine ⟨3000000, ?_⟩
 unfold F4
 obtain ⟨r0, d1, d2, d4⟩ := szTableM_v (N := 3000000) (l := 1048576) (lenT_of hs0) (by omega) (by omega) (by omega)
 rw [d1, andO_of]
 by_cases hr0' : r0 < 0
 ·rw [decide_eq_true hr0', cond_true]
 ·rw [decide_eq_false hr0', cond_false]
  have hfs := d4 (by omega)
  obtain ⟨r1, f1, f2, f3⟩ := szIntT_v (N := 3000000) (by omega) rows (lenR_of hr0) (l := r0) (by omega) (by omega)
  rw [f1, andO_of]
  by_cases hr1 : r1 < 0
  ·rw [decide_eq_true hr1, cond_true]
  ·rw [decide_eq_false hr1, cond_false]
   have hft := f3 (by omega)
   have hfr := fitsR_of hft
   obtain ⟨r, e1, e2, e3, e4⟩ := szNodeS_v (N := 3000000) (l := r1) (len_of h) (by omega) (by omega) (by omega)
   rw [e1, andO_of]
   by_cases hr : r < 0
   ·rw [decide_eq_true hr, cond_true]
   ·have hf := e4 (by omega)
    have hs := hf.1
    have hss := hfs.1
    have hfc : ∀ x ∈ a, x.2.2.2.2.2.2.length ≤ 1048576 := fun x hx => (hf.2 x hx).2
    obtain ⟨q, h1, h2, h3⟩ := sizes_v (N := 3000000) hfs hfr hf (by omega)
    have m1 := markTableX_v (N := 3000000) hss (by omega)
    have k1 : 0 ≤ markTK s 1 ∧ markTK s 1 ≤ 3000000 := by simp only [markTK]; omega
    obtain ⟨w, m2, w1, w2⟩ := markIntT_v (N := 3000000) (m := markTK s 1) (by omega) hfr (by omega) (by omega)
    have m3 := markNodeY_v (N := 3000000) (m := w.2) hs hfc (by omega) (by omega) (by omega)
    have k3 : 0 ≤ markK a w.2 := by have := markK_ge a w.2; omega
    have m4 := markIntS_v (N := 3000000) (a := q) (m := 1) (by omega) (by omega) (by omega)
    have m5 := heldIntS_v (N := 3000000) (n := q.length) (m := 1) (by omega) (by omega) (by omega)
    have k5 : (0 : Int) ≤ 1 + (q.length : Int) := by omega
    rw [decide_eq_false hr, cond_false]
    simp only [toTableS_v (N := 3000000) hss (by omega), toIntT_v (N := 3000000) hfr (by omega), toNodeS_v (N := 3000000) hf (by omega), andO_of, h1, h2, eqIntS_v (N := 3000000) (a := q) (b := q) (by omega) (by omega), decide_true, bne_self_eq_false, Bool.not_true, cond_false, eqTableS_r (N := 3000000) hss (by omega), eqIntT_r (N := 3000000) hfr (by omega), eqNodeS_r (N := 3000000) hf (by omega), m1, m2, m3, dlt k3, m4, m5, dlt k5]
end Go.Proofs.YtpaagnjoniiemaaGreat.Vc
