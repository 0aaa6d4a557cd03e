/- A cache that is as it should be, step by step; a greater cache hits whenever a smaller one does; what is resized. -/
import Derived.Test.YtgpddckjpokclaaDoorPuQ
namespace Go.Proofs.YtgpddckjpokclaaDoor.Vc
open Go Go.RowKit
set_option linter.unusedVariables false
set_option linter.unusedSimpArgs false

structure WFc (c : Ca) : Prop where
  cap : 1 ≤ c.1 ∧ c.1 ≤ 16
  len : (c.2.1.length : Int) ≤ c.1
  vals : c.2.2.length = c.2.1.length
  nk : ∀ x ∈ c.2.1, Num x
  nv : ∀ x ∈ c.2.2, Num x
  nd : c.2.1.Nodup

theorem nodup_of {ks : List Int} (h : ∀ (j : Nat) (hj : j < ks.length), ks[j] ∉ ks.take j) : ks.Nodup := by
  rw [List.Nodup, List.pairwise_iff_getElem]
  intro i j hi hj hij e
  refine h j hj ?_
  rw [List.mem_take_iff_getElem]
  exact ⟨i, by omega, e⟩

theorem of_nodup {ks : List Int} (h : ks.Nodup) (j : Nat) (hj : j < ks.length) : ks[j] ∉ ks.take j := by
  intro hm
  rw [List.mem_take_iff_getElem] at hm
  obtain ⟨i, hi, e⟩ := hm
  rw [List.Nodup, List.pairwise_iff_getElem] at h
  exact h i j (by omega) hj (by omega) e

theorem okL_iff (ks vs : List Int) (hv : vs.length = ks.length) : ∀ (d i : Nat), i + d = ks.length → (okL ks vs d i = true ↔ ∀ (j : Nat), i ≤ j → ∀ (h : j < ks.length), Num ks[j] ∧ Num (vs.getD j 0) ∧ ks[j] ∉ ks.take j)
  | 0, i, h => by
    simp only [okL, true_iff]
    intro j hj hl
    omega
  | d + 1, i, h => by
    have hi : i < ks.length := by omega
    have ih := okL_iff ks vs hv d (i + 1) (by omega)
    simp only [okL, Bool.and_eq_true, decide_eq_true_eq, Bool.not_eq_true', decide_eq_false_iff_not, ih, getD_at hi]
    constructor
    · rintro ⟨⟨⟨a, b⟩, c⟩, e⟩ j hj hl
      by_cases hij : j = i
      · subst hij; exact ⟨a, b, c⟩
      · exact e j (by omega) hl
    · intro e
      obtain ⟨a, b, c⟩ := e i (Nat.le_refl _) hi
      exact ⟨⟨⟨a, b⟩, c⟩, fun j hj hl => e j (by omega) hl⟩

theorem okC_iff {c : Ca} : okC c = true ↔ WFc c := by
  constructor
  · intro h
    obtain ⟨l1, l2, l3, l4, l5⟩ := okC_len h
    have hL : okL c.2.1 c.2.2 c.2.1.length 0 = true := by
      simp only [okC, Bool.and_eq_true] at h
      exact h.2
    rw [okL_iff c.2.1 c.2.2 l1 _ 0 (by omega)] at hL
    refine ⟨⟨l4, l3⟩, l5, l1, fun x hx => ?_, fun x hx => ?_, nodup_of fun j hj => (hL j (Nat.zero_le _) hj).2.2⟩
    · obtain ⟨i, hi, rfl⟩ := List.mem_iff_getElem.1 hx
      exact (hL i (Nat.zero_le _) hi).1
    · obtain ⟨i, hi, rfl⟩ := List.mem_iff_getElem.1 hx
      have := (hL i (Nat.zero_le _) (by omega)).2.1
      rwa [getD_at hi] at this
  · intro h
    have hL : okL c.2.1 c.2.2 c.2.1.length 0 = true := by
      rw [okL_iff c.2.1 c.2.2 h.vals _ 0 (by omega)]
      intro j _ hj
      have hj2 : j < c.2.2.length := by rw [h.vals]; exact hj
      rw [getD_at hj2]
      exact ⟨h.nk _ (List.getElem_mem hj), h.nv _ (List.getElem_mem hj2), of_nodup h.nd j hj⟩
    have h1 := h.cap
    have h2 := h.len
    have h3 := h.vals
    simp only [okC, hL, Bool.and_true, Bool.and_eq_true, decide_eq_true_eq, Bool.not_eq_true', decide_eq_false_iff_not]
    omega

theorem rmv_eq {i : Int} {l : List Int} (h : 0 ≤ i) : rmv i l = l.eraseIdx i.toNat := by
  unfold rmv
  rw [if_neg (by omega), List.eraseIdx_eq_take_drop_succ]

theorem rmv_sub (i : Int) (l : List Int) : (rmv i l).Sublist l := by
  by_cases h : 0 ≤ i
  · rw [rmv_eq h]
    exact List.eraseIdx_sublist _ _
  · unfold rmv
    rw [if_pos (by omega)]
    exact List.Sublist.refl _

theorem idxF_erase (x : Int) : ∀ (l : List Int) (i : Nat), (x ∉ l ∧ idxF x l i = -1) ∨ ∃ j, j < l.length ∧ idxF x l i = ((i + j : Nat) : Int) ∧ l.erase x = l.eraseIdx j ∧ x ∈ l
  | [], i => .inl ⟨by simp, rfl⟩
  | y :: t, i => by
    by_cases h : y = x
    · subst h
      exact .inr ⟨0, by simp, by simp [idxF], by simp, by simp⟩
    · rcases idxF_erase x t (i + 1) with ⟨h1, h2⟩ | ⟨j, h1, h2, h3, h4⟩
      · refine .inl ⟨by simp only [List.mem_cons, not_or]; exact ⟨fun e => h e.symm, h1⟩, by rw [idxF, if_neg h, h2]⟩
      · refine .inr ⟨j + 1, by simp; omega, by rw [idxF, if_neg h, h2]; congr 1; omega, ?_, by simp [h4]⟩
        rw [List.erase_cons_tail (by simpa using h), h3, List.eraseIdx_cons_succ]

theorem rmv_idx {x : Int} {l : List Int} : rmv (idx x l) l = l.erase x := by
  rcases idxF_erase x l 0 with ⟨h1, h2⟩ | ⟨j, h1, h2, h3, h4⟩
  · have e : idx x l = -1 := h2
    rw [e, List.erase_of_not_mem h1]
    rfl
  · have e : idx x l = ((0 + j : Nat) : Int) := h2
    rw [e, rmv_eq (by omega), h3]
    congr 1
    omega

theorem idx_mem {x : Int} {l : List Int} : 0 ≤ idx x l ↔ x ∈ l := by
  rcases idxF_erase x l 0 with ⟨h1, h2⟩ | ⟨j, h1, h2, h3, h4⟩
  · have e : idx x l = -1 := h2
    rw [e]
    exact ⟨fun h => by omega, fun h => absurd h h1⟩
  · have e : idx x l = ((0 + j : Nat) : Int) := h2
    rw [e]
    exact ⟨fun _ => h4, fun _ => by omega⟩

theorem rmv_vals {c : Ca} (h : WFc c) (k : Int) : (rmv (idx k c.2.1) c.2.2).length = (c.2.1.erase k).length := by
  rw [← rmv_idx]
  have hv := h.vals
  rcases idx_range (x := k) (l := c.2.1) with h1 | ⟨h1, h2⟩
  · rw [h1]
    show c.2.2.length = c.2.1.length
    exact hv
  · rw [rmv_len h1 h2, rmv_len h1 (by omega), hv]

/-- The pair k, v put first, if there is room. -/
theorem first_wf {c : Ca} {k v : Int} (h : WFc c) (hk : Num k) (hv : Num v) (hl : ((c.2.1.erase k).length : Int) + 1 ≤ c.1) : WFc (firstV c k v) where
  cap := h.cap
  len := by
    show (((k :: rmv (idx k c.2.1) c.2.1).length : Nat) : Int) ≤ c.1
    rw [rmv_idx, List.length_cons]
    omega
  vals := by
    show (v :: rmv (idx k c.2.1) c.2.2).length = (k :: rmv (idx k c.2.1) c.2.1).length
    rw [List.length_cons, List.length_cons, rmv_vals h, rmv_idx]
  nk := by
    intro x hx
    have hx : x ∈ k :: rmv (idx k c.2.1) c.2.1 := hx
    rcases List.mem_cons.1 hx with rfl | hx
    · exact hk
    · exact h.nk x ((rmv_sub _ _).mem hx)
  nv := by
    intro x hx
    have hx : x ∈ v :: rmv (idx k c.2.1) c.2.2 := hx
    rcases List.mem_cons.1 hx with rfl | hx
    · exact hv
    · exact h.nv x ((rmv_sub _ _).mem hx)
  nd := by
    show (k :: rmv (idx k c.2.1) c.2.1).Nodup
    rw [rmv_idx, List.nodup_cons]
    exact ⟨h.nd.not_mem_erase, h.nd.erase k⟩

theorem get_hit {c : Ca} {k : Int} (h : WFc c) (hk : k ∈ c.2.1) : (getV c k).2.2 = true ∧ WFc (getV c k).1 ∧ (getV c k).1.1 = c.1 ∧ (getV c k).1.2.1 = k :: c.2.1.erase k := by
  have hi := idx_mem.2 hk
  have he : getV c k = (firstV c k (c.2.2.getD (idx k c.2.1).toNat 0), (c.2.2.getD (idx k c.2.1).toNat 0, true)) := by
    unfold getV
    rw [if_pos ⟨okC_iff.2 h, hi⟩]
  have hr : idx k c.2.1 < c.2.1.length := by
    rcases idx_range (x := k) (l := c.2.1) with h1 | ⟨_, h2⟩
    · omega
    · exact h2
  have hv2 := h.vals
  have hn : Num (c.2.2.getD (idx k c.2.1).toNat 0) := by
    rw [getD_at (show (idx k c.2.1).toNat < c.2.2.length by omega)]
    exact h.nv _ (List.getElem_mem _)
  have hle := List.length_erase_of_mem hk
  have hpos : 0 < c.2.1.length := List.length_pos_of_mem hk
  have hlen := h.len
  rw [he]
  refine ⟨rfl, first_wf h (h.nk k hk) hn (by omega), rfl, ?_⟩
  show k :: rmv (idx k c.2.1) c.2.1 = _
  rw [rmv_idx]

theorem get_miss {c : Ca} {k : Int} (hk : k ∉ c.2.1) : (getV c k).2.2 = false := by
  unfold getV
  rw [if_neg (fun h => hk (idx_mem.1 h.2))]

theorem put_miss {c : Ca} {k : Int} (h : WFc c) (hk : k ∉ c.2.1) : WFc (putV c k 0).1 ∧ (putV c k 0).1.1 = c.1 ∧ (putV c k 0).1.2.1 = (if Num k then (k :: c.2.1).take c.1.toNat else c.2.1) := by
  have h1 := h.cap
  have h2 := h.len
  by_cases hn : Num k
  · have h0 : Num 0 := ⟨by omega, by omega⟩
    have he : c.2.1.erase k = c.2.1 := List.erase_of_not_mem hk
    have hf : (firstV c k 0).2.1 = k :: c.2.1 := by
      show k :: rmv (idx k c.2.1) c.2.1 = _
      rw [rmv_idx, he]
    rw [if_pos hn]
    unfold putV
    rw [if_pos ⟨okC_iff.2 h, hn, h0⟩]
    by_cases hl : ((firstV c k 0).2.1.length : Int) ≤ c.1
    · rw [if_pos hl]
      rw [hf, List.length_cons] at hl
      refine ⟨first_wf h hn h0 (by rw [he]; omega), rfl, ?_⟩
      rw [hf, List.take_of_length_le (by rw [List.length_cons]; omega)]
    · rw [if_neg hl]
      rw [hf, List.length_cons] at hl
      have hv : (firstV c k 0).2.2.length = (firstV c k 0).2.1.length := by
        show (0 :: rmv (idx k c.2.1) c.2.2).length = (k :: rmv (idx k c.2.1) c.2.1).length
        rw [List.length_cons, List.length_cons, rmv_vals h, rmv_idx]
      have hk1 : rmv c.1 (firstV c k 0).2.1 = (k :: c.2.1).take c.1.toNat := by
        rw [hf]
        unfold rmv
        rw [if_neg (by omega), List.drop_eq_nil_of_le (by rw [List.length_cons]; omega), List.append_nil]
      have hl1 : (rmv c.1 (firstV c k 0).2.1).length = c.2.1.length := by
        rw [rmv_len (by omega) (by rw [hf, List.length_cons]; omega), hf, List.length_cons]
        omega
      have hl2 : (rmv c.1 (firstV c k 0).2.2).length = c.2.1.length := by
        rw [rmv_len (by omega) (by rw [hv, hf, List.length_cons]; omega), hv, hf, List.length_cons]
        omega
      refine ⟨⟨h.cap, ?_, ?_, ?_, ?_, ?_⟩, rfl, hk1⟩
      · show ((rmv c.1 (firstV c k 0).2.1).length : Int) ≤ c.1
        omega
      · show (rmv c.1 (firstV c k 0).2.2).length = (rmv c.1 (firstV c k 0).2.1).length
        omega
      · intro x hx
        have hx : x ∈ rmv c.1 (firstV c k 0).2.1 := hx
        have := (rmv_sub _ _).mem hx
        rw [hf] at this
        rcases List.mem_cons.1 this with rfl | hx
        · exact hn
        · exact h.nk x hx
      · intro x hx
        have hx : x ∈ rmv c.1 (firstV c k 0).2.2 := hx
        have hx2 : x ∈ 0 :: rmv (idx k c.2.1) c.2.2 := (rmv_sub _ _).mem hx
        rcases List.mem_cons.1 hx2 with rfl | hx
        · exact h0
        · exact h.nv x ((rmv_sub _ _).mem hx)
      · show (rmv c.1 (firstV c k 0).2.1).Nodup
        have hnd : (firstV c k 0).2.1.Nodup := by
          rw [hf, List.nodup_cons]
          exact ⟨hk, h.nd⟩
        exact hnd.sublist (rmv_sub _ _)
  · rw [if_neg hn]
    unfold putV
    rw [if_neg (fun e => hn e.2.1)]
    exact ⟨h, rfl, rfl⟩

theorem take_erase (k : Int) : ∀ (l : List Int) (n : Nat), k ∈ l.take (n + 1) → (l.take (n + 1)).erase k = (l.erase k).take n
  | [], n, h => by simp at h
  | y :: t, 0, h => by
    simp only [List.take_succ_cons, List.take_zero, List.mem_singleton] at h
    subst h
    simp
  | y :: t, n + 1, h => by
    rw [List.take_succ_cons] at h ⊢
    by_cases e : y = k
    · subst e
      simp
    · have hm : k ∈ t.take (n + 1) := by
        rcases List.mem_cons.1 h with h1 | h1
        · exact absurd h1.symm e
        · exact h1
      rw [List.erase_cons_tail (by simpa using e), List.erase_cons_tail (by simpa using e), List.take_succ_cons, take_erase k t n hm]

theorem hits_le : ∀ (l : List Int) (c C : Ca) (h H : Int), WFc c → WFc C → C.1 = c.1 + 1 → c.2.1 = C.2.1.take c.1.toNat → h ≤ H → hitsF l c h ≤ hitsF l C H
  | [], c, C, h, H, _, _, _, _, hh => hh
  | k :: l, c, C, h, H, w, W, e1, e2, hh => by
    obtain ⟨n, hn⟩ : ∃ n : Nat, c.1 = ((n + 1 : Nat) : Int) := ⟨c.1.toNat - 1, by have := w.cap; omega⟩
    have hn1 : c.1.toNat = n + 1 := by omega
    have hn2 : C.1.toNat = n + 2 := by omega
    have hCl : C.2.1.length ≤ n + 2 := by have := W.len; omega
    by_cases h1 : k ∈ c.2.1
    · have h2 : k ∈ C.2.1 := by rw [e2] at h1; exact List.mem_of_mem_take h1
      obtain ⟨a1, a2, a3, a4⟩ := get_hit w h1
      obtain ⟨b1, b2, b3, b4⟩ := get_hit W h2
      simp only [hitsF, a1, b1, if_true]
      refine hits_le l _ _ _ _ a2 b2 (by rw [a3, b3, e1]) ?_ (by omega)
      rw [a3, a4, b4, hn1, List.take_succ_cons, e2, hn1]
      rw [e2, hn1] at h1
      rw [take_erase k _ n h1]
    · have ha := get_miss h1
      obtain ⟨p1, p2, p3⟩ := put_miss w h1
      by_cases h2 : k ∈ C.2.1
      · obtain ⟨b1, b2, b3, b4⟩ := get_hit W h2
        have hnum := W.nk k h2
        simp only [hitsF, ha, b1, if_true, Bool.false_eq_true, if_false]
        refine hits_le l _ _ _ _ p1 b2 (by rw [p2, b3, e1]) ?_ (by omega)
        rw [p2, p3, if_pos hnum, b4, hn1, e2, hn1]
        -- k is the last of the greater cache
        have hsp : C.2.1 = C.2.1.take (n + 1) ++ C.2.1.drop (n + 1) := (List.take_append_drop _ _).symm
        have hkd : k ∈ C.2.1.drop (n + 1) := by
          rw [hsp] at h2
          rcases List.mem_append.1 h2 with h3 | h3
          · rw [e2, hn1] at h1; exact absurd h3 h1
          · exact h3
        have hdl : (C.2.1.drop (n + 1)).length ≤ 1 := by simp; omega
        have hd : C.2.1.drop (n + 1) = [k] := by
          match hx : C.2.1.drop (n + 1), hkd, hdl with
          | [y], hkd, _ => simp at hkd; rw [hkd]
          | [], hkd, _ => cases hkd
        have her : C.2.1.erase k = C.2.1.take (n + 1) := by
          rw [e2, hn1] at h1
          conv => lhs; rw [hsp, hd]
          rw [List.erase_append_right _ h1]
          simp
        rw [her]
      · have hb := get_miss h2
        obtain ⟨q1, q2, q3⟩ := put_miss W h2
        simp only [hitsF, ha, hb, Bool.false_eq_true, if_false]
        refine hits_le l _ _ _ _ p1 q1 (by rw [p2, q2, e1]) ?_ hh
        rw [p2, p3, q3, hn1, hn2]
        by_cases hnum : Num k
        · rw [if_pos hnum, if_pos hnum, e2, hn1, List.take_take, List.take_succ_cons, List.take_take, show min (n + 1) (n + 2) = n + 1 by omega, List.take_succ_cons]
          congr 1
          congr 1
          omega
        · rw [if_neg hnum, if_neg hnum, e2, hn1]

theorem take_wf {c : Ca} {n : Int} (h : WFc c) (h1 : 1 ≤ n ∧ n ≤ 16) : WFc (n, (c.2.1.take n.toNat, c.2.2.take n.toNat)) where
  cap := h1
  len := by
    show ((c.2.1.take n.toNat).length : Int) ≤ n
    rw [List.length_take]
    omega
  vals := by
    show (c.2.2.take n.toNat).length = (c.2.1.take n.toNat).length
    rw [List.length_take, List.length_take, h.vals]
  nk := fun x hx => h.nk x (List.mem_of_mem_take hx)
  nv := fun x hx => h.nv x (List.mem_of_mem_take hx)
  nd := h.nd.sublist (List.take_sublist _ _)
end Go.Proofs.YtgpddckjpokclaaDoor.Vc
