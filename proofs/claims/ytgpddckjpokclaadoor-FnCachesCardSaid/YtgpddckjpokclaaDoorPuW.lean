/- Ops on a cache, drawn: the cache has what was used last. -/
import Derived.Test.YtgpddckjpokclaaDoorPuV
import Derived.Test.YtgpddckjpokclaaDoorPuE
namespace Go.Proofs.YtgpddckjpokclaaDoor.Vc
open Go Go.RowKit
set_option linter.unusedVariables false
set_option linter.unusedSimpArgs false

theorem erase_le (k : Int) (l : List Int) : (l.erase k).length ≤ l.length := List.length_erase_le

theorem put_any {c : Ca} {k v : Int} (h : WFc c) (hn : Num k) (hv0 : Num v) : WFc (putV c k v).1 ∧ (putV c k v).1.1 = c.1 ∧ (putV c k v).1.2.1 = (k :: c.2.1.erase k).take c.1.toNat := by
  have h1 := h.cap
  have h2 := h.len
  have hle := erase_le k c.2.1
  have hf : (firstV c k v).2.1 = k :: c.2.1.erase k := by
    show k :: rmv (idx k c.2.1) c.2.1 = _
    rw [rmv_idx]
  unfold putV
  rw [if_pos ⟨okC_iff.2 h, hn, hv0⟩]
  by_cases hl : ((firstV c k v).2.1.length : Int) ≤ c.1
  · rw [if_pos hl]
    rw [hf, List.length_cons] at hl
    refine ⟨first_wf h hn hv0 (by omega), rfl, ?_⟩
    rw [hf, List.take_of_length_le (by rw [List.length_cons]; omega)]
  · rw [if_neg hl]
    rw [hf, List.length_cons] at hl
    have hv : (firstV c k v).2.2.length = (firstV c k v).2.1.length := by
      show (v :: rmv (idx k c.2.1) c.2.2).length = (k :: rmv (idx k c.2.1) c.2.1).length
      rw [List.length_cons, List.length_cons, rmv_vals h, rmv_idx]
    have hk1 : rmv c.1 (firstV c k v).2.1 = (k :: c.2.1.erase k).take c.1.toNat := by
      rw [hf]
      unfold rmv
      rw [if_neg (by omega), List.drop_eq_nil_of_le (by rw [List.length_cons]; omega), List.append_nil]
    have hl1 : (rmv c.1 (firstV c k v).2.1).length = (c.2.1.erase k).length := by
      rw [rmv_len (by omega) (by rw [hf, List.length_cons]; omega), hf, List.length_cons]
      omega
    have hl2 : (rmv c.1 (firstV c k v).2.2).length = (c.2.1.erase k).length := by
      rw [rmv_len (by omega) (by rw [hv, hf, List.length_cons]; omega), hv, hf, List.length_cons]
      omega
    refine ⟨⟨h.cap, ?_, ?_, ?_, ?_, ?_⟩, rfl, hk1⟩
    · show ((rmv c.1 (firstV c k v).2.1).length : Int) ≤ c.1
      omega
    · show (rmv c.1 (firstV c k v).2.2).length = (rmv c.1 (firstV c k v).2.1).length
      omega
    · intro x hx
      have hx : x ∈ rmv c.1 (firstV c k v).2.1 := hx
      have := (rmv_sub _ _).mem hx
      rw [hf] at this
      rcases List.mem_cons.1 this with rfl | hx
      · exact hn
      · exact h.nk x (List.mem_of_mem_erase hx)
    · intro x hx
      have hx : x ∈ rmv c.1 (firstV c k v).2.2 := hx
      have hx2 : x ∈ v :: rmv (idx k c.2.1) c.2.2 := (rmv_sub _ _).mem hx
      rcases List.mem_cons.1 hx2 with rfl | hx
      · exact hv0
      · exact h.nv x ((rmv_sub _ _).mem hx)
    · show (rmv c.1 (firstV c k v).2.1).Nodup
      have hnd : (firstV c k v).2.1.Nodup := by
        rw [hf, List.nodup_cons]
        exact ⟨h.nd.not_mem_erase, h.nd.erase k⟩
      exact hnd.sublist (rmv_sub _ _)

theorem drop_any {c : Ca} (k : Int) (h : WFc c) : WFc (dropV c k).1 ∧ (dropV c k).1.1 = c.1 ∧ (dropV c k).1.2.1 = c.2.1.erase k := by
  have hle := erase_le k c.2.1
  have h2 := h.len
  unfold dropV
  by_cases hk : k ∈ c.2.1
  · rw [if_pos ⟨okC_iff.2 h, idx_mem.2 hk⟩]
    refine ⟨⟨h.cap, ?_, ?_, ?_, ?_, ?_⟩, rfl, rmv_idx⟩
    · show ((rmv (idx k c.2.1) c.2.1).length : Int) ≤ c.1
      rw [rmv_idx]
      omega
    · show (rmv (idx k c.2.1) c.2.2).length = (rmv (idx k c.2.1) c.2.1).length
      rw [rmv_vals h, rmv_idx]
    · intro x hx
      have hx : x ∈ rmv (idx k c.2.1) c.2.1 := hx
      exact h.nk x ((rmv_sub _ _).mem hx)
    · intro x hx
      have hx : x ∈ rmv (idx k c.2.1) c.2.2 := hx
      exact h.nv x ((rmv_sub _ _).mem hx)
    · show (rmv (idx k c.2.1) c.2.1).Nodup
      exact h.nd.sublist (rmv_sub _ _)
  · rw [if_neg (fun e => hk (idx_mem.1 e.2))]
    exact ⟨h, rfl, (List.erase_of_not_mem hk).symm⟩

def keyOf (x : Int) : Int := if x < 0 then -x - 1 else x.tdiv 2

/-- The keys, as a plain list has them, behind one op more. -/
def newK (ks : List Int) (x : Int) : List Int :=
  if x < 0 then ks.filter (fun y => y != keyOf x) else if x.tmod 2 = 1 then keyOf x :: ks.filter (fun y => y != keyOf x) else if keyOf x ∈ ks then keyOf x :: ks.filter (fun y => y != keyOf x) else ks

def stepK (n : Int) (ks : List Int) (x : Int) : List Int := if ((newK ks x).length : Int) > n then (newK ks x).take n.toNat else newK ks x

theorem stepK_len {n : Int} {ks : List Int} {x : Int} (hn : 0 ≤ n) : ((stepK n ks x).length : Int) ≤ n := by
  unfold stepK
  split
  · rw [List.length_take]; omega
  · omega

theorem newK_len (ks : List Int) (x : Int) : (newK ks x).length ≤ ks.length + 1 := by
  have h := List.length_filter_le (fun y => y != keyOf x) ks
  unfold newK
  split
  · omega
  · split
    · rw [List.length_cons]; omega
    · split
      · rw [List.length_cons]; omega
      · omega

theorem play_step {c : Ca} {x : Int} (h : WFc c) (hk : Num (keyOf x)) (hx : Num x) : WFc (playOp c x).1 ∧ (playOp c x).1.1 = c.1 ∧ (playOp c x).1.2.1 = stepK c.1 c.2.1 x := by
  have h1 := h.cap
  have h2 := h.len
  have he : c.2.1.erase (keyOf x) = c.2.1.filter (fun y => y != keyOf x) := h.nd.erase_eq_filter _
  have hle := erase_le (keyOf x) c.2.1
  unfold playOp
  by_cases h0 : x < 0
  · have hko : keyOf x = -x - 1 := by unfold keyOf; rw [if_pos h0]
    rw [if_pos h0]
    obtain ⟨a1, a2, a3⟩ := drop_any (-x - 1) h
    refine ⟨a1, a2, ?_⟩
    have hnk : newK c.2.1 x = c.2.1.filter (fun y => y != keyOf x) := by unfold newK; rw [if_pos h0]
    rw [a3, ← hko, he]
    unfold stepK
    rw [hnk, if_neg]
    rw [← he]
    omega
  · have hko : keyOf x = x.tdiv 2 := by unfold keyOf; rw [if_neg h0]
    have hm : x.tmod 2 = x % 2 := Int.tmod_eq_emod_of_nonneg (by omega)
    rw [if_neg h0]
    by_cases ht : x.tmod 2 = 0
    · rw [if_pos ht]
      by_cases hkm : keyOf x ∈ c.2.1
      · obtain ⟨g1, g2, g3, g4⟩ := get_hit h hkm
        rw [← hko]
        refine ⟨g2, g3, ?_⟩
        rw [g4, he]
        have hl := List.length_erase_of_mem hkm
        have hp := List.length_pos_of_mem hkm
        rw [he] at hl
        have hnk : newK c.2.1 x = keyOf x :: c.2.1.filter (fun y => y != keyOf x) := by unfold newK; rw [if_neg h0, if_neg (by omega), if_pos hkm]
        unfold stepK
        rw [hnk, if_neg]
        rw [List.length_cons]
        omega
      · have hg : getV c (x.tdiv 2) = (c, (0, false)) := by
          unfold getV
          rw [if_neg (fun e => hkm (by rw [hko]; exact idx_mem.1 e.2))]
        rw [hg]
        refine ⟨h, rfl, ?_⟩
        have hnk : newK c.2.1 x = c.2.1 := by unfold newK; rw [if_neg h0, if_neg (by omega), if_neg hkm]
        show c.2.1 = stepK c.1 c.2.1 x
        unfold stepK
        rw [hnk, if_neg (by omega)]
    · rw [if_neg ht]
      obtain ⟨a1, a2, a3⟩ := put_any (k := x.tdiv 2) (v := x) h (by rw [← hko]; exact hk) hx
      refine ⟨a1, a2, ?_⟩
      have hnk : newK c.2.1 x = keyOf x :: c.2.1.filter (fun y => y != keyOf x) := by unfold newK; rw [if_neg h0, if_pos (by omega)]
      rw [a3, ← hko, he]
      unfold stepK
      rw [hnk]
      split
      · rfl
      · rw [List.take_of_length_le (by omega)]

theorem play_keys : ∀ (l : List Int) (c : Ca) (o : List Int), WFc c → (∀ x ∈ l, Num (keyOf x) ∧ Num x) → WFc (playF l c o).1 ∧ (playF l c o).1.2.1 = l.foldl (stepK c.1) c.2.1
  | [], c, o, h, _ => ⟨h, rfl⟩
  | x :: l, c, o, h, hx => by
    obtain ⟨a1, a2, a3⟩ := play_step h (hx x (by simp)).1 (hx x (by simp)).2
    obtain ⟨b1, b2⟩ := play_keys l (playOp c x).1 (o ++ [(playOp c x).2]) a1 (fun y hy => hx y (by simp [hy]))
    refine ⟨b1, ?_⟩
    show (playF l (playOp c x).1 _).1.2.1 = _
    rw [b2, a2, a3]
    rfl
theorem drawPlay_l (N : Nat) (n : Int) (hn : n ≤ 400) : ∀ (d k : Nat) (i : Nat) (c : Cur) (ops : List Int), CurOk c → ops.length = i → (i : Int) + d = n → d < k → (∀ x ∈ ops, -9 ≤ x ∧ x ≤ 19) →
    ∃ z os, F8_l0 N n k c.1 c.2.1 c.2.2 ops (i : Int) = some (z, os) ∧ ∀ x ∈ os, -9 ≤ x ∧ x ≤ 19 := by
  intro d
  have hlim := lim_i64
  induction d with
  | zero =>
    intro k i c ops hc hk h hd ho
    rw [F8_l0_s _ _ (by omega), F8_l0_b]
    simp only [show ¬ (i : Int) < n by omega, decide_false, cond_false, F8_j0]
    obtain ⟨c', x, e1, e2, _⟩ := l01PickInt_v N hc (l := [(1 : Int), (2 : Int), (3 : Int), (4 : Int), (16 : Int), (17 : Int), (0 : Int)]) (by simp) (by simp)
    rw [show (c.1, (c.2.1, c.2.2)) = c from rfl, e1, andO_of]
    exact ⟨_, _, rfl, ho⟩
  | succ d ih =>
    intro k i c ops hc hk h hd ho
    rw [F8_l0_s _ _ (by omega), F8_l0_b]
    obtain ⟨c1, x1, e1, h1, a1, b1, _⟩ := l01Below_v N hc (n := 20) (by omega)
    obtain ⟨c2, x2, e2, h2, a2, b2, _⟩ := l01Below_v N h1 (n := 20) (by omega)
    obtain ⟨c3, x3, e3, h3, a3, b3, _⟩ := l01Below_v N h2 (n := 20) (by omega)
    obtain ⟨c4, x4, e4, h4, a4, b4, _⟩ := l01Below_v N h3 (n := 9) (by omega)
    have b1 := b1 (by omega)
    have b2 := b2 (by omega)
    have b3 := b3 (by omega)
    have b4 := b4 (by omega)
    obtain ⟨c5, y, e5, h5, hy⟩ := l01PickInt_v N h4 (l := [x1, x2, x3, -1 - x4]) (by simp) (by simp)
    have hy2 : -9 ≤ y ∧ y ≤ 19 := by
      simp only [List.mem_cons, List.not_mem_nil, or_false] at hy
      rcases hy with rfl | rfl | rfl | rfl <;> omega
    simp only [show (i : Int) < n by omega, decide_true, cond_true]
    rw [show (c.1, (c.2.1, c.2.2)) = c from rfl, e1, andO_of, e2, andO_of, e3, andO_of, e4, andO_of, w64 (x := (-1 : Int) - x4) (by omega) (by omega), e5, andO_of, gd_true (by simp; omega), w64 (x := (i : Int) + 1) (by omega) (by omega), show ((i : Int) + 1) = ((i + 1 : Nat) : Int) by omega]
    refine ih (k - 1) (i + 1) c5 (ops ++ [y]) h5 (by simp; omega) (by omega) (by omega) (fun x hx => ?_)
    rcases List.mem_append.1 hx with hx | hx
    · exact ho x hx
    · rw [List.mem_singleton] at hx
      rw [hx]
      exact hy2

theorem drawPlay_v {N : Nat} {a : List Int} (hs : a.length ≤ 2000000) (hN : 2000000 < N) : ∃ z os, F8 N a = some (z, os) ∧ ∀ x ∈ os, -9 ≤ x ∧ x ≤ 19 := by
  unfold F8
  obtain ⟨c, e1, hc⟩ := l01New_v hs hN
  obtain ⟨r, e2, r0, r1⟩ := l01Size_v N hs (m := 50) (by omega) (by omega)
  obtain ⟨c1, x, e3, hc1, x0, _, x2⟩ := l01Below_v N hc (n := r) (by omega)
  obtain ⟨c2, b, e4, hc2⟩ := l01Once_v N hc1 (n := 40) (by omega)
  rw [e1, andO_of, e2, andO_of, e3, andO_of, e4, andO_of]
  cases b with
  | false =>
    simp only [cond_false, F8_j1]
    exact drawPlay_l N x (by omega) x.toNat N 0 c2 [] hc2 rfl (by omega) (by omega) (fun x hx => by cases hx)
  | true =>
    obtain ⟨c3, y, e5, hc3, y0, y1, _⟩ := l01Below_v N hc2 (n := 2) (by omega)
    have y2 := y1 (by omega)
    simp only [cond_true, F8_j1]
    rw [e5, andO_of, w64 (by omega) (by omega)]
    exact drawPlay_l N (300 + y) (by omega) (300 + y).toNat N 0 c3 [] hc3 rfl (by omega) (by omega) (fun x hx => by cases hx)
theorem cacheText_v {N : Nat} (hN : 1000000 < N) {c : Ca} (hz : Sz c N) : ∃ r, F12 N c = some r ∧ F13 N c = some r := by
  unfold F12 F13
  rw [sCacheOk_v hz.1 (by have := hz.2.2.1; omega), iCacheOk_v hz.1 (by have := hz.2.2.1; omega), andO_of, andO_of]
  cases hok : okC c with
  | false => exact ⟨_, rfl, rfl⟩
  | true =>
    have hw := okC_iff.1 hok
    have hwk : ∀ x ∈ c.2.1, In64 x := fun x hx => by have := hw.nk x hx; exact ⟨by have := this.1; omega, by have := this.2; omega⟩
    have hwv : ∀ x ∈ c.2.2, In64 x := fun x hx => by have := hw.nv x hx; exact ⟨by have := this.1; omega, by have := this.2; omega⟩
    obtain ⟨o1, o2, _⟩ := okC_len hok
    simp only [Bool.not_true, cond_false]
    cases ((c.2.1.length : Int) == 0) with
    | true => exact ⟨_, rfl, rfl⟩
    | false =>
      have f1 := iCT_l N c.1 c.2.1 c.2.2 o1 o2 hwk hwv c.2.1.length N 0 (by omega) (by omega)
      have f2 := sCT_l N (by omega) c.1 c.2.1 c.2.2 o1 o2 hwk hwv c.2.1.length N 0 (by omega) (by omega)
      exact ⟨_, f1, f2⟩
theorem within_l (N : Nat) (a : List Int) (x : Int) (hs : a.length < 4611686018427387904) : ∀ (d k i : Nat), i + d = a.length → d < k → F14_l0 N a x k (i : Int) = some (decide (x ∈ a.drop i)) := by
  intro d
  induction d with
  | zero =>
    intro k i h hk
    rw [F14_l0_s _ _ _ (by omega), F14_l0_b]
    simp only [show ¬ (i : Int) < (a.length : Int) by omega, decide_false, cond_false, F14_j0]
    rw [List.drop_eq_nil_of_le (by omega)]
    rfl
  | succ d ih =>
    intro k i h hk
    have hi : i < a.length := by omega
    rw [F14_l0_s _ _ _ (by omega), F14_l0_b, List.drop_eq_getElem_cons hi]
    simp only [show (i : Int) < (a.length : Int) by omega, decide_true, cond_true, gd_true (inR hi), Int.toNat_natCast, getD_at hi]
    rw [w64 (by omega) (by omega), show ((i : Int) + 1) = ((i + 1 : Nat) : Int) by omega, ih (k - 1) (i + 1) (by omega) (by omega)]
    by_cases he : a[i] = x
    · simp [he]
    · have hb : (a[i] == x) = false := by simpa using he
      rw [hb, cond_false]
      congr 1
      rw [decide_eq_decide, List.mem_cons]
      constructor
      · exact fun h => .inr h
      · rintro (h | h)
        · exact absurd h.symm he
        · exact h

theorem within_v {N : Nat} {a : List Int} {x : Int} (h : a.length < N) (hs : a.length < 4611686018427387904) : F14 N a x = some (decide (x ∈ a)) := by
  unfold F14
  have := within_l N a x hs a.length N 0 (by omega) (by omega)
  simpa using this
theorem caches_rest (N : Nat) (nx : Int → List Int → Int → List Int → List Int → List Int → Int → Option Bool) (n : Int) (ops : List Int) (c0 : Int) (ck cv keys : List Int) (i x key : Int) (y : Bool) (hs : keys.length ≤ 100) : ∀ (d k j : Nat), j + d = keys.length → d < k →
    F3_l0 N nx n ops c0 ck cv keys i x key y k ((keys.take j).filter fun z => z != key) (j : Int) = F3_j4 N nx n ops c0 ck cv keys i x key y (keys.filter fun z => z != key) := by
  intro d
  have hlim := lim_i64
  induction d with
  | zero =>
    intro k j h hk
    rw [F3_l0_s _ _ _ _ _ _ _ _ _ _ _ _ (by omega), F3_l0_b]
    simp only [show ¬ (j : Int) < (keys.length : Int) by omega, decide_false, cond_false]
    rw [List.take_of_length_le (by omega)]
  | succ d ih =>
    intro k j h hk
    have hj : j < keys.length := by omega
    have hfl := List.length_filter_le (fun z => z != key) (keys.take j)
    rw [List.length_take] at hfl
    rw [F3_l0_s _ _ _ _ _ _ _ _ _ _ _ _ (by omega), F3_l0_b]
    simp only [show (j : Int) < (keys.length : Int) by omega, decide_true, cond_true, gd_true (inR hj), Int.toNat_natCast, gd_true hj, getD_at hj, F3_j5]
    rw [w64 (x := (j : Int) + 1) (by omega) (by omega), show ((j : Int) + 1) = ((j + 1 : Nat) : Int) by omega, gd_true (by rw [List.length_singleton]; omega)]
    have hn := ih (k - 1) (j + 1) (by omega) (by omega)
    rw [List.take_succ_eq_append_getElem hj, List.filter_append] at hn
    cases hb : (keys[j] != key) with
    | true =>
      rw [cond_true]
      rw [show ([keys[j]].filter fun z => z != key) = [keys[j]] by simp [List.filter, hb]] at hn
      exact hn
    | false =>
      rw [cond_false]
      rw [show ([keys[j]].filter fun z => z != key) = [] by simp [List.filter, hb], List.append_nil] at hn
      exact hn

theorem caches_l (N : Nat) (hN : 1000 ≤ N) (n : Int) (h1 : 1 ≤ n ∧ n ≤ 16) (ops : List Int) (hl : ops.length ≤ 300) (ho : ∀ x ∈ ops, -9 ≤ x ∧ x ≤ 19) (c0 : Int) (ck cv : List Int) : ∀ (d k i : Nat) (keys : List Int), i + d = ops.length → d < k → (keys.length : Int) ≤ n →
    F3_l1 N k n ops c0 ck cv keys (i : Int) = F3_j1 N c0 ck cv ((ops.drop i).foldl (stepK n) keys) := by
  intro d
  have hlim := lim_i64
  induction d with
  | zero =>
    intro k i keys h hk hkl
    rw [F3_l1_s _ (by omega), F3_l1_b]
    simp only [show ¬ (i : Int) < (ops.length : Int) by omega, decide_false, cond_false]
    rw [List.drop_eq_nil_of_le (by omega), List.foldl_nil]
  | succ d ih =>
    intro k i keys h hk hkl
    have hi : i < ops.length := by omega
    obtain ⟨x1, x2⟩ := ho _ (List.getElem_mem hi)
    have hko : (cond (decide (ops[i] < 0)) (IntKind.i64.wrap ((IntKind.i64.wrap ((0 : Int) - ops[i])) - (1 : Int))) (IntKind.i64.wrap (Int.tdiv ops[i] (2 : Int)))) = keyOf ops[i] := by
      unfold keyOf
      by_cases h0 : ops[i] < 0
      · rw [decide_eq_true h0, cond_true, if_pos h0, w64 (x := (0 : Int) - ops[i]) (by omega) (by omega), w64 (by omega) (by omega)]
        omega
      · have ht : Int.tdiv ops[i] 2 = ops[i] / 2 := Int.tdiv_eq_ediv_of_nonneg (by omega)
        rw [decide_eq_false h0, cond_false, if_neg h0, ht, w64 (by omega) (by omega)]
    have hstep : F3_j6 N (F3_l1 N (k - 1)) n ops c0 ck cv keys (i : Int) ops[i] (keyOf ops[i]) = F3_j1 N c0 ck cv ((ops.drop (i + 1)).foldl (stepK n) (stepK n keys ops[i])) := by
      rw [F3_j6, within_v (by omega) (by omega), andO_of]
      have hr := caches_rest N (F3_l1 N (k - 1)) n ops c0 ck cv keys (i : Int) ops[i] (keyOf ops[i]) (decide (keyOf ops[i] ∈ keys)) (by omega) keys.length N 0 (by omega) (by omega)
      rw [List.take_zero, List.filter_nil] at hr
      rw [show (0 : Int) = ((0 : Nat) : Int) from rfl, hr]
      have hfl := List.length_filter_le (fun z => z != keyOf ops[i]) keys
      have hnl := newK_len keys ops[i]
      -- what stands behind the op
      have fin : F3_j3 N (F3_l1 N (k - 1)) n ops c0 ck cv (i : Int) (newK keys ops[i]) = F3_j1 N c0 ck cv ((ops.drop (i + 1)).foldl (stepK n) (stepK n keys ops[i])) := by
        have hsl := stepK_len (n := n) (ks := keys) (x := ops[i]) (by omega)
        have hih := ih (k - 1) (i + 1) (stepK n keys ops[i]) (by omega) (by omega) hsl
        rw [← hih]
        rw [F3_j3]
        simp only [F3_j2]
        rw [w64 (x := (i : Int) + 1) (by omega) (by omega), show ((i : Int) + 1) = ((i + 1 : Nat) : Int) by omega]
        unfold stepK
        by_cases hc : ((newK keys ops[i]).length : Int) > n
        · rw [decide_eq_true hc, cond_true, if_pos hc, gd_true ⟨by omega, by omega⟩]
        · rw [decide_eq_false hc, cond_false, if_neg hc]
      rw [← fin, F3_j4]
      unfold newK
      by_cases h0 : ops[i] < 0
      · rw [decide_eq_true h0, cond_true, if_pos h0]
      · rw [decide_eq_false h0, cond_false, if_neg h0, gd_true (by rw [List.length_singleton]; omega)]
        by_cases ht : ops[i].tmod 2 = 1
        · rw [if_pos ht, show (ops[i].tmod 2 == 1) = true by simp [ht], cond_true]
          rfl
        · rw [if_neg ht, show (ops[i].tmod 2 == 1) = false by simp [ht], cond_false]
          by_cases hm : keyOf ops[i] ∈ keys
          · rw [if_pos hm, decide_eq_true hm, cond_true]
            rfl
          · rw [if_neg hm, decide_eq_false hm, cond_false]
    rw [F3_l1_s _ (by omega), F3_l1_b, List.drop_eq_getElem_cons hi, List.foldl_cons]
    simp only [show (i : Int) < (ops.length : Int) by omega, decide_true, cond_true, gd_true (inR hi), Int.toNat_natCast, gd_true hi, getD_at hi]
    rw [← hstep, ← hko]
    by_cases h0 : ops[i] < 0
    · rw [decide_eq_true h0, cond_true, cond_true]
    · rw [decide_eq_false h0, cond_false, cond_false]
theorem lawFnCaches (a : List Int) (h : (Ty.sl (.int .u8)).wf a) : ∃ N, F3 N a = some true := by
  refine ⟨3000000, ?_⟩
  unfold F3 F7
  rw [andO_of]
  by_cases hl : (a.length : Int) > 1048576
  · rw [decide_eq_true hl, cond_true]
  · obtain ⟨n, ops, e1, ho⟩ := drawPlay_v (N := 3000000) (a := a) (by omega) (by omega)
    have hw : ∀ x ∈ ops, -9223372036854775808 ≤ x ∧ x ≤ 9223372036854775807 := fun x hx => by have := ho x hx; omega
    have hnum : ∀ x ∈ ops, Num (keyOf x) ∧ Num x := by
      intro x hx
      have := ho x hx
      have hk : -9 ≤ keyOf x ∧ keyOf x ≤ 19 := by
        unfold keyOf
        split
        · omega
        · have ht : Int.tdiv x 2 = x / 2 := Int.tdiv_eq_ediv_of_nonneg (by omega)
          rw [ht]
          omega
      exact ⟨⟨by omega, by omega⟩, ⟨by omega, by omega⟩⟩
    rw [decide_eq_false hl, cond_false, e1, andO_of, sPlay_v (by omega) hw, andO_of, iPlay_v (by omega) hw, andO_of]
    by_cases hv : (1 ≤ n ∧ n ≤ 16) ∧ ops.length ≤ 300
    · have hp : playV n ops = playF ops (n, ([], [])) [] := by unfold playV; rw [if_pos hv]
      have w0 : WFc (n, ([], [])) := ⟨hv.1, by show (0 : Int) ≤ n; omega, rfl, (fun x hx => by cases hx), (fun x hx => by cases hx), List.nodup_nil⟩
      obtain ⟨w1, k1⟩ := play_keys ops (n, ([], [])) [] w0 hnum
      have hz0 : Sz (n, (([] : List Int), ([] : List Int))) 3000000 := Few.sz (n := 0) ⟨by simp, by simp⟩ (by omega) (by omega)
      have hz := playF_sz (N := 3000000) (by omega) ops (n, ([], [])) [] hz0
      have ht := playF_len ops (n, ([], [])) []
      obtain ⟨t, t1, t2⟩ := cacheText_v (N := 3000000) (by omega) hz
      have s1 := same_r (N := 3000000) (a := (playF ops (n, ([], [])) []).2) (by rw [ht]; simp; omega) (by rw [ht]; simp; omega)
      have hlp := caches_l 3000000 (by omega) n hv.1 ops hv.2 ho (playF ops (n, ([], [])) []).1.1 (playF ops (n, ([], [])) []).1.2.1 (playF ops (n, ([], [])) []).1.2.2 ops.length 3000000 0 [] (by omega) (by omega) (by simp; omega)
      rw [List.drop_zero, show ops.foldl (stepK n) [] = (playF ops (n, ([], [])) []).1.2.1 from k1.symm] at hlp
      rw [hp]
      simp only [s1, andO_of, Bool.not_true, cond_false, t1, t2, beq_self_eq_true]
      rw [decide_eq_false (show ¬ n < 1 by omega), cond_false, decide_eq_false (show ¬ n > 16 by omega), cond_false, decide_eq_false (show ¬ (ops.length : Int) > 300 by omega), cond_false, show (0 : Int) = ((0 : Nat) : Int) from rfl, hlp]
      generalize (playF ops (n, ([], [])) []).1 = c at w1 hz
      have hok := okC_iff.2 w1
      have hl2 := w1.len
      have hc2 := w1.cap
      have s2 := same_r (N := 3000000) (a := c.2.1) (by omega) (by omega)
      rw [F3_j1]
      simp only [F3_j0, s2, andO_of, cond_true, iCacheOk_v hz.1 (show c.2.1.length < 4611686018427387904 by omega), hok, iOldest_v hz]
      by_cases h0 : (c.2.1.length : Int) > 0
      · rw [decide_eq_true h0, cond_true, w64 (by omega) (by omega), show ((c.2.1.length : Int) - 1) = ((c.2.1.length - 1 : Nat) : Int) by omega, gd_true (inR (by omega)), gd_true (by simp; omega), Int.toNat_natCast]
        unfold oldV
        rw [if_pos ⟨hok, by intro e; rw [e] at h0; simp at h0⟩]
        simp [Ty.dflt]
      · rw [decide_eq_false h0, cond_false]
        unfold oldV
        rw [if_neg (fun e => e.2 (List.length_eq_zero_iff.1 (by omega)))]
        simp
    · have hp : playV n ops = ((0, ([], [])), []) := by unfold playV; rw [if_neg hv]
      have hz0 : Sz (0, (([] : List Int), ([] : List Int))) 3000000 := Few.sz (n := 0) ⟨by simp, by simp⟩ (by omega) (by omega)
      obtain ⟨t, t1, t2⟩ := cacheText_v (N := 3000000) (by omega) hz0
      have s1 := same_r (N := 3000000) (a := []) (by simp) (by simp)
      rw [hp]
      simp only [s1, andO_of, Bool.not_true, cond_false, t1, t2, beq_self_eq_true]
      by_cases h1 : n < 1
      · rw [decide_eq_true h1, cond_true]
        rfl
      · rw [decide_eq_false h1, cond_false]
        by_cases h2 : n > 16
        · rw [decide_eq_true h2, cond_true]
          rfl
        · rw [decide_eq_false h2, cond_false]
          rw [decide_eq_true (show (ops.length : Int) > 300 by
            rcases Nat.lt_or_ge 300 ops.length with h3 | h3
            · omega
            · exact absurd ⟨⟨by omega, by omega⟩, h3⟩ hv), cond_true]
          rfl
end Go.Proofs.YtgpddckjpokclaaDoor.Vc
