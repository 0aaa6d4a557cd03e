/- Nodes and plans: what the program's functions and the reference's give. -/
import Derived.Test.YtgpddckjpokclaaPuC
namespace Go.Proofs.Ytgpddckjpokclaa.Vc
open Go Go.RowKit
set_option linter.unusedVariables false
set_option linter.unusedSimpArgs false

abbrev Nd := Int × (ByteArray × (Int × (Int × (Int × (Bool × List Int)))))

/-- Whether f holds at the d places from i on. -/
def allF (f : Nat → Bool) : Nat → Nat → Bool
  | _, 0 => true
  | i, d + 1 => f i && allF f (i + 1) d

theorem allF_congr {f g : Nat → Bool} : ∀ {d i : Nat}, (∀ j, i ≤ j → f j = g j) → allF f i d = allF g i d
  | 0, i, h => rfl
  | d + 1, i, h => by
    rw [allF, allF, h i (Nat.le_refl _), allF_congr (fun j hj => h j (by omega))]

def chr (w : ByteArray) (i : Nat) : Int := ((w.data.getD i 0).toNat : Int)

def okI (w : ByteArray) (i : Nat) : Bool := decide ((97 ≤ chr w i ∧ chr w i ≤ 122) ∨ (i ≠ 0 ∧ 48 ≤ chr w i ∧ chr w i ≤ 57))
def okS (w : ByteArray) (i : Nat) : Bool := decide ((97 ≤ chr w i ∧ chr w i ≤ 122) ∨ (48 ≤ chr w i ∧ chr w i ≤ 57))

/-- A word. -/
def wordB (w : ByteArray) : Bool := allF (okI w) 0 w.size && decide (1 ≤ (w.size : Int) ∧ (w.size : Int) ≤ 12)
theorem iWord_l (N : Nat) (a : ByteArray) (hs : a.size < 4611686018427387904) : ∀ (d k i : Nat), i + d = a.size → d < k → F140_l0 N a k (a.size : Int) (i : Int) = some (allF (okI a) i d && decide (1 ≤ (a.size : Int) ∧ (a.size : Int) ≤ 12)) := by
  intro d
  induction d with
  | zero =>
    intro k i h hk
    rw [F140_l0_s _ _ (by omega), F140_l0_b]
    simp only [show ¬ (i : Int) < (a.size : Int) by omega, decide_false, cond_false, F140_j0, in_v, andO_of, allF, Bool.true_and]
  | succ d ih =>
    intro k i h hk
    have hi : i < a.size := by omega
    have e0 : (((i : Nat) : Int) == 0) = decide (i = 0) := by
      rw [Bool.eq_iff_iff]; simp
    rw [F140_l0_s _ _ (by omega), F140_l0_b]
    simp only [show (i : Int) < (a.size : Int) by omega, decide_true, cond_true, gd_true (inR hi), Int.toNat_natCast, F140_j1, e0]
    rw [w64 (by omega) (by omega), show ((i : Int) + 1) = ((i + 1 : Nat) : Int) by omega, ih (k - 1) (i + 1) (by omega) (by omega)]
    simp only [allF, okI, chr]
    obtain ⟨c, hc⟩ : ∃ c : Int, ((a.data.getD i 0).toNat : Int) = c := ⟨_, rfl⟩
    simp only [hc]
    have hd : ∀ (φ : Prop) [Decidable φ], φ → decide φ = true := fun φ _ h => by simp [h]
    have hn : ∀ (φ : Prop) [Decidable φ], ¬ φ → decide φ = false := fun φ _ h => by simp [h]
    by_cases ho : (97 ≤ c ∧ c ≤ 122) ∨ (i ≠ 0 ∧ 48 ≤ c ∧ c ≤ 57)
    · rw [hd _ ho, Bool.true_and]
      by_cases h1 : c ≥ 97
      · by_cases h2 : c ≤ 122
        · simp only [hd _ h1, hd _ h2, cond_true, Bool.not_true, cond_false]
        · exfalso; omega
      · rw [hn _ h1, cond_false, hn _ (show ¬ i = 0 by omega), cond_false, hn _ (show ¬ c < 48 by omega), cond_false, hn _ (show ¬ c > 57 by omega), cond_false]
    · rw [hn _ ho, Bool.false_and]
      by_cases h1 : c ≥ 97
      · by_cases h2 : c ≤ 122
        · exfalso; omega
        · simp only [hd _ h1, hn _ h2, cond_true, Bool.not_false, hn _ (show ¬ c < 48 by omega), hd _ (show c > 57 by omega), cond_false]
          cases decide (i = 0) <;> rfl
      · rw [hn _ h1, cond_false]
        by_cases h0 : i = 0
        · rw [hd _ h0, cond_true]; rfl
        · rw [hn _ h0, cond_false]
          by_cases h3 : c < 48
          · rw [hd _ h3, cond_true]; rfl
          · rw [hn _ h3, cond_false, hd _ (show c > 57 by omega), cond_true]; rfl

theorem iWord_v {N : Nat} {a : ByteArray} (hs : a.size < N) (hN : a.size < 4611686018427387904) : F140 N a = some (wordB a) := by
  unfold F140
  exact iWord_l N a hN a.size N 0 (by omega) hs
theorem sWord_l (N : Nat) (a : ByteArray) (hs : a.size < 4611686018427387904) : ∀ (d k i : Nat), i + d = a.size → d < k → F138_l0 N a k (i : Int) = some (allF (okS a) i d) := by
  intro d
  induction d with
  | zero =>
    intro k i h hk
    rw [F138_l0_s _ _ (by omega), F138_l0_b]
    simp only [show ¬ (i : Int) < (a.size : Int) by omega, decide_false, cond_false, F138_j0, allF]
  | succ d ih =>
    intro k i h hk
    have hi : i < a.size := by omega
    rw [F138_l0_s _ _ (by omega), F138_l0_b]
    simp only [show (i : Int) < (a.size : Int) by omega, decide_true, cond_true, gd_true (inR hi), Int.toNat_natCast, F138_j1]
    rw [w64 (by omega) (by omega), show ((i : Int) + 1) = ((i + 1 : Nat) : Int) by omega, ih (k - 1) (i + 1) (by omega) (by omega)]
    simp only [allF, okS, chr]
    obtain ⟨c, hc⟩ : ∃ c : Int, ((a.data.getD i 0).toNat : Int) = c := ⟨_, rfl⟩
    simp only [hc]
    have hd : ∀ (φ : Prop) [Decidable φ], φ → decide φ = true := fun φ _ h => by simp [h]
    have hn : ∀ (φ : Prop) [Decidable φ], ¬ φ → decide φ = false := fun φ _ h => by simp [h]
    by_cases ho : (97 ≤ c ∧ c ≤ 122) ∨ (48 ≤ c ∧ c ≤ 57)
    · rw [hd _ ho, Bool.true_and]
      by_cases h1 : c < 97
      · simp only [hd _ h1, hn _ (show ¬ c < 48 by omega), hn _ (show ¬ c > 57 by omega), cond_true, cond_false]
      · simp only [hn _ h1, hn _ (show ¬ c > 122 by omega), cond_false]
    · rw [hn _ ho, Bool.false_and]
      by_cases h1 : c < 97
      · by_cases h3 : c < 48
        · simp only [hd _ h1, hd _ h3, cond_true]
        · simp only [hd _ h1, hn _ h3, hd _ (show c > 57 by omega), cond_true, cond_false]
      · simp only [hn _ h1, hd _ (show c > 122 by omega), cond_false, cond_true, hn _ (show ¬ c < 48 by omega), hd _ (show c > 57 by omega)]

theorem sWord_v {N : Nat} {a : ByteArray} (hs : a.size < N) (hN : a.size < 4611686018427387904) : F138 N a = some (wordB a) := by
  unfold F138
  rw [l01In_v, andO_of, wordB]
  by_cases hl : 1 ≤ (a.size : Int) ∧ (a.size : Int) ≤ 12
  · have h0 : 0 < a.size := by omega
    simp only [hl, and_self, decide_true, Bool.not_true, cond_false, Bool.and_true]
    rw [gd_true (by simp only [InR]; omega)]
    have hl := sWord_l N a hN a.size N 0 (by omega) hs
    rw [show ((0 : Int)) = ((0 : Nat) : Int) from rfl, hl]
    obtain ⟨n, hn⟩ : ∃ n, a.size = n + 1 := ⟨a.size - 1, by omega⟩
    rw [hn]
    simp only [allF, Int.toNat_natCast]
    have hcg : ∀ j : Nat, 0 + 1 ≤ j → okI a j = okS a j := by
      intro j hj
      have : j ≠ 0 := by omega
      simp only [okI, okS, ne_eq, this, not_false_eq_true, true_and]
    rw [allF_congr hcg]
    have hc : okI a 0 = (decide (¬ chr a 0 < 97) && okS a 0) := by
      simp only [okI, okS, ne_eq, not_true_eq_false, false_and, or_false]
      rw [Bool.eq_iff_iff]
      simp only [Bool.and_eq_true, decide_eq_true_eq]
      omega
    rw [hc]
    show cond (decide (chr a 0 < 97)) _ _ = _
    by_cases h9 : chr a 0 < 97
    · simp [h9]
    · simp [h9]
  · simp [hl]
theorem isCol_v (N : Nat) (x : Int) : F194 N x = some (decide (0 ≤ x ∧ x ≤ 63)) := by
  unfold F194
  rw [in_v, andO_of]
theorem isSlot_v (N : Nat) (x : Int) : F195 N x = some (decide (0 ≤ x ∧ x ≤ 39)) := by
  unfold F195
  rw [in_v, andO_of]
theorem l02Col_v (N : Nat) (x : Int) : F192 N x = some (decide (0 ≤ x ∧ x ≤ 63)) := by
  unfold F192
  rw [l01In_v, andO_of]
/-- IndexFunc over whole numbers, of a function that always answers. -/
theorem idxFuncI_l (N : Nat) (a : List Int) (p : Int → Option Bool) (q : Int → Bool) (hp : ∀ x ∈ a, p x = some (q x)) (hs : a.length < 4611686018427387904) : ∀ (d k i : Nat), i + d = a.length → d < k →
    ∃ r : Int, F218_l0 N a p k (a.length : Int) (i : Int) = some r ∧ decide (r ≥ 0) = (a.drop i).any q := by
  intro d
  induction d with
  | zero =>
    intro k i h hk
    rw [F218_l0_s _ _ _ (by omega), F218_l0_b]
    refine ⟨-1, by simp only [show ¬ (i : Int) < (a.length : Int) by omega, decide_false, cond_false, F218_j0], ?_⟩
    rw [List.drop_eq_nil_of_le (by omega)]
    rfl
  | succ d ih =>
    intro k i h hk
    have hi : i < a.length := by omega
    rw [F218_l0_s _ _ _ (by omega), F218_l0_b]
    simp only [show (i : Int) < (a.length : Int) by omega, decide_true, cond_true, gd_true (inR hi), Int.toNat_natCast, getD_at hi, hp _ (List.getElem_mem hi), andO_of]
    rw [w64 (by omega) (by omega), show ((i : Int) + 1) = ((i + 1 : Nat) : Int) by omega, List.drop_eq_getElem_cons hi, List.any_cons]
    by_cases hx : q a[i] = true
    · rw [hx]
      exact ⟨i, rfl, by simp⟩
    · have hx' : q a[i] = false := by simpa using hx
      rw [hx']
      obtain ⟨r, h1, h2⟩ := ih (k - 1) (i + 1) (by omega) (by omega)
      exact ⟨r, h1, by simpa using h2⟩
theorem contFuncI_v {N : Nat} {a : List Int} {p : Int → Option Bool} {q : Int → Bool} (hp : ∀ x ∈ a, p x = some (q x)) (hs : a.length < N) (hN : a.length < 4611686018427387904) : F196 N a p = some (a.any q) := by
  unfold F196 F218
  obtain ⟨r, h1, h2⟩ := idxFuncI_l N a p q hp hN a.length N 0 (by omega) hs
  rw [show (0 : Int) = ((0 : Nat) : Int) from rfl, h1, andO_of]
  rw [show ((0 : Nat) : Int) = (0 : Int) from rfl, h2]
  rfl
theorem idxFuncN_l (N : Nat) (a : List Nd) (p : Nd → Option Bool) (q : Nd → Bool) (hp : ∀ x ∈ a, p x = some (q x)) (hs : a.length < 4611686018427387904) : ∀ (d k i : Nat), i + d = a.length → d < k →
    ∃ r : Int, F193_l0 N a p k (a.length : Int) (i : Int) = some r ∧ decide (r ≥ 0) = (a.drop i).any q := by
  intro d
  induction d with
  | zero =>
    intro k i h hk
    rw [F193_l0_s _ _ _ (by omega), F193_l0_b]
    refine ⟨-1, by simp only [show ¬ (i : Int) < (a.length : Int) by omega, decide_false, cond_false, F193_j0], ?_⟩
    rw [List.drop_eq_nil_of_le (by omega)]
    rfl
  | succ d ih =>
    intro k i h hk
    have hi : i < a.length := by omega
    rw [F193_l0_s _ _ _ (by omega), F193_l0_b]
    simp only [show (i : Int) < (a.length : Int) by omega, decide_true, cond_true, gd_true (inR hi), Int.toNat_natCast, getD_at hi, hp _ (List.getElem_mem hi), andO_of]
    rw [w64 (by omega) (by omega), show ((i : Int) + 1) = ((i + 1 : Nat) : Int) by omega, List.drop_eq_getElem_cons hi, List.any_cons]
    by_cases hx : q a[i] = true
    · rw [hx]
      exact ⟨i, rfl, by simp⟩
    · have hx' : q a[i] = false := by simpa using hx
      rw [hx']
      obtain ⟨r, h1, h2⟩ := ih (k - 1) (i + 1) (by omega) (by omega)
      exact ⟨r, h1, by simpa using h2⟩
theorem contFuncN_v {N : Nat} {a : List Nd} {p : Nd → Option Bool} {q : Nd → Bool} (hp : ∀ x ∈ a, p x = some (q x)) (hs : a.length < N) (hN : a.length < 4611686018427387904) : F145 N a p = some (a.any q) := by
  unfold F145 F193
  obtain ⟨r, h1, h2⟩ := idxFuncN_l N a p q hp hN a.length N 0 (by omega) hs
  rw [show (0 : Int) = ((0 : Nat) : Int) from rfl, h1, andO_of]
  rw [show ((0 : Nat) : Int) = (0 : Int) from rfl, h2]
  rfl
theorem equalI_l (N : Nat) (a b : List Int) (hl : a.length = b.length) (hs : a.length < 4611686018427387904) : ∀ (d k i : Nat), i + d = a.length → d < k → F187_l0 N a b k (a.length : Int) (i : Int) = some (decide (a.drop i = b.drop i)) := by
  intro d
  induction d with
  | zero =>
    intro k i h hk
    rw [F187_l0_s _ _ _ (by omega), F187_l0_b]
    simp only [show ¬ (i : Int) < (a.length : Int) by omega, decide_false, cond_false, F187_j0]
    rw [List.drop_eq_nil_of_le (by omega), List.drop_eq_nil_of_le (by omega)]
    rfl
  | succ d ih =>
    intro k i h hk
    have hi : i < a.length := by omega
    have hi' : i < b.length := by omega
    rw [F187_l0_s _ _ _ (by omega), F187_l0_b]
    simp only [show (i : Int) < (a.length : Int) by omega, decide_true, cond_true, gd_true (inR hi), gd_true (inR hi'), Int.toNat_natCast, getD_at hi, getD_at hi']
    rw [w64 (by omega) (by omega), show ((i : Int) + 1) = ((i + 1 : Nat) : Int) by omega, ih (k - 1) (i + 1) (by omega) (by omega)]
    by_cases hx : a[i] = b[i]
    · simp only [hx, bne_self_eq_false, cond_false, drop_eq_iff hi hi', true_and]
    · have : (a[i] != b[i]) = true := by simp [hx]
      simp only [this, cond_true, drop_eq_iff hi hi', hx, false_and, decide_false]

theorem equalI_v {N : Nat} {a b : List Int} (hs : a.length < N) (hN : a.length < 4611686018427387904) : F187 N a b = some (decide (a = b)) := by
  unfold F187
  rw [bne_len]
  by_cases hl : a.length = b.length
  · simp only [hl, ne_eq, not_true_eq_false, decide_false, cond_false]
    have := equalI_l N a b hl hN a.length N 0 (by omega) hs
    rw [hl] at this
    simpa using this
  · have : a ≠ b := fun e => hl (by rw [e])
    simp [hl, this]
/-- The two nodes are the same, field by field. -/
def sameB (a b : Nd) : Bool := a.1 == b.1 && (a.2.1.toList == b.2.1.toList && (a.2.2.1 == b.2.2.1 && (a.2.2.2.1 == b.2.2.2.1 && (a.2.2.2.2.1 == b.2.2.2.2.1 && (a.2.2.2.2.2.1 == b.2.2.2.2.2.1 && decide (a.2.2.2.2.2.2 = b.2.2.2.2.2.2))))))

theorem cond_and (a b : Bool) : (cond a (some b) (some false)) = some (a && b) := by cases a <;> rfl
theorem sameNode_v {N : Nat} {a b : Nd} (hs : a.2.2.2.2.2.2.length < N) (hN : a.2.2.2.2.2.2.length < 4611686018427387904) : F133 N a b = some (sameB a b) := by
  unfold F133
  rw [equalI_v hs hN, andO_of]
  simp only [cond_and, sameB]
/-- A node that a plan may have. -/
def nodeB (a : Nd) : Bool :=
  let e := a.2.1.toList == ByteArray.empty.toList
  let col := decide (0 ≤ a.2.2.1 ∧ a.2.2.1 ≤ 63)
  let cz := a.2.2.1 == 0
  let oz := a.2.2.2.1 == 0
  let nz := a.2.2.2.2.1 == 0
  let sl := a.2.2.2.2.2.1
  let nc := decide (a.2.2.2.2.2.2 = [])
  let s39 := decide (0 ≤ a.2.2.2.2.1 ∧ a.2.2.2.2.1 ≤ 39)
  cond (a.1 == 0) (wordB a.2.1 && cz && oz && nz && !sl && nc)
    (cond (a.1 == 1) (e && nc && col && decide (0 ≤ a.2.2.2.1 ∧ a.2.2.2.1 ≤ 3) && (cond (a.2.2.2.1 == 3) (nz && !sl) (cond sl s39 (decide (Num a.2.2.2.2.1)))))
    (cond (a.1 == 2) (e && decide (1 ≤ (a.2.2.2.2.2.2.length : Int) ∧ (a.2.2.2.2.2.2.length : Int) ≤ 6) && a.2.2.2.2.2.2.all (fun x => decide (0 ≤ x ∧ x ≤ 63)) && cz && oz && nz && !sl)
    (cond (a.1 == 3) (e && nc && col && decide (0 ≤ a.2.2.2.2.1 ∧ a.2.2.2.2.1 ≤ 63) && oz && !sl)
    (cond (a.1 == 5) (e && nc && col && nz && oz && !sl)
    (cond (a.1 == 6) (e && nc && decide (0 ≤ a.2.2.2.2.1 ∧ a.2.2.2.2.1 ≤ 1000000) && (!sl || s39) && cz && oz)
    ((a.1 == 4 || a.1 == 7) && e && nc && cz && oz && nz && !sl))))))
theorem nodeOk_j0 {N : Nat} (b : ByteArray) (c d e : Int) (s : Bool) (l : List Int) (g : Bool) (hs : l.length < N) (hN : l.length < 4611686018427387904) : F147_j0 N b c d e s l g = some (g && ((b.toList == ByteArray.empty.toList) && (c == 0 && (d == 0 && (e == 0 && (!s && decide (l = []))))))) := by
  unfold F147_j0
  rw [sameNode_v hs hN, andO_of, cond_and]
  simp only [sameB, beq_self_eq_true, Bool.true_and]
  cases s <;> simp
theorem iNodeOk1_v (N : Nat) (x : Int) : F197 N x = some (!decide (0 ≤ x ∧ x ≤ 63)) := by
  unfold F197
  rw [isCol_v, andO_of]
theorem iNodeOk_v {N : Nat} {a : Nd} (h0 : 0 < N) (hw : a.2.1.size < N) (hs : a.2.2.2.2.2.2.length < N) (hN : a.2.2.2.2.2.2.length < 4611686018427387904) (hw2 : a.2.1.size < 4611686018427387904) : F147 N a = some (nodeB a) := by
  obtain ⟨kind, name, col, op, num, slot, cols⟩ := a
  simp only at hw hs hN hw2
  unfold F147
  have hany : (cols.any fun x => !decide (0 ≤ x ∧ x ≤ 63)) = !(cols.all fun x => decide (0 ≤ x ∧ x ≤ 63)) := by
    rw [List.not_all_eq_any_not]
  simp only [F147_j1, F147_j2, F147_j3, nodeOk_j0 _ _ _ _ _ _ _ hs hN, nodeOk_j0 _ _ _ _ _ ([] : List Int) _ (show ([] : List Int).length < N from h0) (show ([] : List Int).length < 4611686018427387904 by simp), iWord_v hw hw2, isCol_v, isSlot_v, isNum_v, in_v, andO_of,
    contFuncI_v (p := fun z0 => F197 N z0) (q := fun x => !decide (0 ≤ x ∧ x ≤ 63)) (fun x _ => iNodeOk1_v N x) hs hN, hany, nodeB, beq_self_eq_true, Bool.true_and, Bool.not_not, decide_true]
  generalize (name.toList == ByteArray.empty.toList) = e
  generalize wordB name = w
  generalize (decide (0 ≤ col ∧ col ≤ 63)) = cB
  generalize (decide (0 ≤ op ∧ op ≤ 3)) = oB
  generalize (decide (Num num)) = nB
  generalize (decide (0 ≤ num ∧ num ≤ 39)) = s39
  generalize (decide (0 ≤ num ∧ num ≤ 63)) = n63
  generalize (decide (0 ≤ num ∧ num ≤ 1000000)) = nL
  generalize (decide (1 ≤ (cols.length : Int) ∧ (cols.length : Int) ≤ 6)) = lB
  generalize (cols.all fun x => decide (0 ≤ x ∧ x ≤ 63)) = aB
  generalize (decide (cols = [])) = nc
  generalize (col == 0) = cz
  generalize (op == 0) = oz
  generalize (num == 0) = nz
  generalize (op == 3) = o3
  generalize (kind == 0) = q0
  generalize (kind == 1) = q1
  generalize (kind == 2) = q2
  generalize (kind == 3) = q3
  generalize (kind == 4) = q4
  generalize (kind == 5) = q5
  generalize (kind == 6) = q6
  generalize (kind == 7) = q7
  clear hany
  cases q0 <;> simp only [cond_true, cond_false]
  cases q1 <;> simp only [cond_true, cond_false]
  cases q2 <;> simp only [cond_true, cond_false]
  cases q3 <;> simp only [cond_true, cond_false]
  cases q5 <;> simp only [cond_true, cond_false]
  cases q6 <;> simp only [cond_true, cond_false]
  · revert q4 q7 e nc cz oz nz slot; decide +kernel
  · revert e nc nL slot s39 cz oz; decide +kernel
  · revert e nc cB nz oz slot; decide +kernel
  · revert e nc cB n63 oz slot; decide +kernel
  · revert e lB aB cz oz nz slot; decide +kernel
  · revert e nc cB oB o3 nz slot s39 nB; decide +kernel
  · revert w cz oz nz slot nc; decide +kernel
theorem sNode_l (N : Nat) (c n : Int) (sl : Bool) (a : List Int) (hs : a.length < 4611686018427387904) : ∀ (d k i : Nat), i + d = a.length → d < k → F144_l0 N c n sl a k (i : Int) = some ((a.drop i).all (fun x => decide (0 ≤ x ∧ x ≤ 63)) && (decide (1 ≤ (a.length : Int) ∧ (a.length : Int) ≤ 6) && (c == 0 && (n == 0 && !sl)))) := by
  intro d
  induction d with
  | zero =>
    intro k i h hk
    rw [F144_l0_s _ _ _ _ _ (by omega), F144_l0_b]
    simp only [show ¬ (i : Int) < (a.length : Int) by omega, decide_false, cond_false, F144_j1, l01In_v, andO_of, cond_and]
    rw [List.drop_eq_nil_of_le (by omega)]
    rfl
  | succ d ih =>
    intro k i h hk
    have hi : i < a.length := by omega
    rw [F144_l0_s _ _ _ _ _ (by omega), F144_l0_b]
    simp only [show (i : Int) < (a.length : Int) by omega, decide_true, cond_true, gd_true (inR hi), Int.toNat_natCast, getD_at hi, l02Col_v, andO_of]
    rw [w64 (by omega) (by omega), show ((i : Int) + 1) = ((i + 1 : Nat) : Int) by omega, ih (k - 1) (i + 1) (by omega) (by omega), List.drop_eq_getElem_cons hi, List.all_cons]
    generalize (decide (0 ≤ a[i] ∧ a[i] ≤ 63)) = b
    cases b <;> simp
theorem sNodeOk_v {N : Nat} {a : Nd} (hw : a.2.1.size < N) (hs : a.2.2.2.2.2.2.length < N) (hN : a.2.2.2.2.2.2.length < 4611686018427387904) (hw2 : a.2.1.size < 4611686018427387904) : F144 N a = some (nodeB a) := by
  obtain ⟨kind, name, col, op, num, slot, cols⟩ := a
  simp only at hw hs hN hw2
  unfold F144
  have hlen : (decide ((cols.length : Int) > 0)) = !decide (cols = []) := by
    cases cols with
    | nil => rfl
    | cons x l => simp
  have hl := sNode_l N col num slot cols hN cols.length N 0 (by omega) hs
  rw [show (((0 : Nat)) : Int) = 0 from rfl, List.drop_zero] at hl
  simp only [F144_j0, F144_j2, F144_j3, hl, sWord_v hw hw2, l02Col_v, l01Number_v, l01In_v, andO_of, hlen, nodeB, bne]
  have i1 : num == 0 → decide (Num num) := by
    intro h; have : num = 0 := by simpa using h
    subst this; decide
  have i2 : decide (0 ≤ num ∧ num ≤ 39) → decide (Num num) := by
    intro h; have : 0 ≤ num ∧ num ≤ 39 := by simpa using h
    exact decide_eq_true (show -1000000 ≤ num ∧ num ≤ 1000000 by omega)
  have x01 : kind == 0 → (kind == 1) = false := by
    intro h; have : kind = 0 := by simpa using h
    subst this; decide
  have x02 : kind == 0 → (kind == 2) = false := by
    intro h; have : kind = 0 := by simpa using h
    subst this; decide
  have x12 : kind == 1 → (kind == 2) = false := by
    intro h; have : kind = 1 := by simpa using h
    subst this; decide
  clear hl hlen
  generalize (name.toList == ByteArray.empty.toList) = e
  generalize wordB name = w
  generalize (decide (0 ≤ col ∧ col ≤ 63)) = cB
  generalize (decide (0 ≤ op ∧ op ≤ 3)) = oB
  generalize (decide (Num num)) = nB at i1 i2 ⊢
  generalize (decide (0 ≤ num ∧ num ≤ 39)) = s39 at i2 ⊢
  generalize (decide (0 ≤ num ∧ num ≤ 63)) = n63
  generalize (decide (0 ≤ num ∧ num ≤ 1000000)) = nL
  generalize (decide (1 ≤ (cols.length : Int) ∧ (cols.length : Int) ≤ 6)) = lB
  generalize (cols.all fun x => decide (0 ≤ x ∧ x ≤ 63)) = aB
  generalize (decide (cols = [])) = nc
  generalize (col == 0) = cz
  generalize (op == 0) = oz
  generalize (num == 0) = nz at i1 ⊢
  generalize (op == 3) = o3
  generalize (kind == 0) = q0 at x01 x02 ⊢
  generalize (kind == 1) = q1 at x01 x12 ⊢
  generalize (kind == 2) = q2 at x02 x12 ⊢
  generalize (kind == 3) = q3
  generalize (kind == 4) = q4
  generalize (kind == 5) = q5
  generalize (kind == 6) = q6
  generalize (kind == 7) = q7
  cases q0
  · cases q1
    · cases q2 <;> simp only [cond_true, cond_false, Bool.not_true, Bool.not_false]
      · cases q3 <;> simp only [cond_true, cond_false]
        · cases q5 <;> simp only [cond_true, cond_false]
          · cases q6 <;> simp only [cond_true, cond_false]
            · clear i1 i2 x01 x02 x12; revert q4 q7 e nc cz oz nz slot s39; decide +kernel
            · clear i1 i2 x01 x02 x12; revert e nc nL slot s39 cz oz; decide +kernel
          · clear i1 i2 x01 x02 x12; revert e nc cB nz oz slot s39; decide +kernel
        · clear i1 i2 x01 x02 x12; revert e nc cB n63 oz slot s39; decide +kernel
      · clear i1 i2 x01 x02 x12; revert e lB aB cz oz nz slot s39; decide +kernel
    · have := x12 rfl; subst this
      simp only [cond_true, cond_false, Bool.not_true, Bool.not_false]
      clear x01 x02 x12
      revert i1 i2
      revert e nc cB oB o3 nz slot s39 nB; decide +kernel
  · have h1 := x01 rfl; have h2 := x02 rfl; subst h1; subst h2
    simp only [cond_true, cond_false, Bool.not_true, Bool.not_false]
    clear i1 i2 x01 x02 x12
    revert e w cz oz nz slot nc s39; decide +kernel
end Go.Proofs.Ytgpddckjpokclaa.Vc
