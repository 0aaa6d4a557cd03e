/- Tables and schemas; a new shelf. -/
import Derived.Test.YtgpddckjpokclaaPuP
import Derived.Test.YtgpddckjpokclaaPuH
namespace Go.Proofs.Ytgpddckjpokclaa.Vc
open Go Go.RowKit
set_option linter.unusedVariables false
set_option linter.unusedSimpArgs false

abbrev Tb := ByteArray × Int
abbrev tbT : Ty := .pair .str (.int .i64)
def tD : Tb := (ByteArray.empty, 0)

def FitsT (s : List Tb) : Prop := s.length ≤ 1048576 ∧ ∀ x ∈ s, x.1.size ≤ 1048576
def LenT (s : List Tb) : Prop := s.length ≤ 9223372036854775807 ∧ ∀ x ∈ s, x.1.size ≤ 9223372036854775807

theorem lenT_of {p : List Tb} (h : (Ty.sl tbT).wf p) : LenT p := ⟨h.1, fun x hx => (h.2 x hx).1⟩

theorem lim_tb : 1048576 ≤ lim tbT := by decide +kernel

theorem drop_byte {a : ByteArray} {i : Nat} (h : i < a.size) : a.toList.drop i = a.data.getD i 0 :: a.toList.drop (i + 1) := by
  rw [ByteArray.toList_eq]
  have h2 : i < a.data.toList.length := by simpa using h
  rw [List.drop_eq_getElem_cons h2]
  have h3 : i < a.data.size := h
  simp [Array.getD, h3]
  intro h4
  exact absurd h (by omega)

theorem drop_all {a : ByteArray} {i : Nat} (h : a.size ≤ i) : a.toList.drop i = [] := by
  rw [ByteArray.toList_eq]
  exact List.drop_eq_nil_of_le (by simpa using h)
theorem less_l (N : Nat) (a b : ByteArray) (hs : a.size < 4611686018427387904) : ∀ (d k i : Nat), i + d = a.size → d < k → F139_l0 N a b k (i : Int) = some (Op.bytesLess (a.toList.drop i) (b.toList.drop i)) := by
  intro d
  induction d with
  | zero =>
    intro k i h hk
    rw [F139_l0_s _ _ _ (by omega), F139_l0_b]
    simp only [show ¬ (i : Int) < (a.size : Int) by omega, decide_false, cond_false, F139_j0]
    rw [drop_all (a := a) (by omega)]
    by_cases hb : i < b.size
    · rw [drop_byte hb, Op.bytesLess, decide_eq_true (by omega)]
    · rw [drop_all (a := b) (by omega), Op.bytesLess, decide_eq_false (by omega)]
  | succ d ih =>
    intro k i h hk
    have hi : i < a.size := by omega
    rw [F139_l0_s _ _ _ (by omega), F139_l0_b]
    simp only [show (i : Int) < (a.size : Int) by omega, decide_true, cond_true, Int.toNat_natCast]
    rw [drop_byte hi]
    by_cases hb : i < b.size
    · simp only [show (i : Int) < (b.size : Int) by omega, decide_true, cond_true, gd_true (inR hi), gd_true (inR hb)]
      rw [drop_byte hb, Op.bytesLess, w64 (by omega) (by omega), show ((i : Int) + 1) = ((i + 1 : Nat) : Int) by omega, ih (k - 1) (i + 1) (by omega) (by omega)]
      obtain ⟨x, hx⟩ : ∃ x : UInt8, a.data.getD i 0 = x := ⟨_, rfl⟩
      obtain ⟨y, hy⟩ : ∃ y : UInt8, b.data.getD i 0 = y := ⟨_, rfl⟩
      simp only [hx, hy]
      by_cases he : x = y
      · subst he
        simp
      · have hne : ((x.toNat : Int) != (y.toNat : Int)) = true := by
          rw [bne_iff_ne]
          intro e
          exact he (UInt8.toNat_inj.mp (by omega))
        have hb2 : (x == y) = false := by simpa using he
        rw [hne, cond_true, hb2, Bool.false_and, Bool.or_false]
        congr 1
        rw [decide_eq_decide, UInt8.lt_iff_toNat_lt]
        omega
    · simp only [show ¬ (i : Int) < (b.size : Int) by omega, decide_false, cond_false, F139_j0]
      rw [drop_all (a := b) (by omega), Op.bytesLess, decide_eq_false (by omega)]

theorem less_v {N : Nat} {a b : ByteArray} (h : a.size < N) (hs : a.size < 4611686018427387904) : F139 N a b = some (Op.bytesLess a.toList b.toList) := by
  unfold F139
  have := less_l N a b hs a.size N 0 (by omega) (by omega)
  simpa using this
/-- Whether a place of a schema is in order. -/
def tabB (s : List Tb) (i : Nat) : Bool := wordB (s.getD i tD).1 && (decide (1 ≤ (s.getD i tD).2 ∧ (s.getD i tD).2 ≤ 6) && (decide (i = 0) || Op.bytesLess (s.getD (i - 1) tD).1.toList (s.getD i tD).1.toList))

theorem iSchema_l (N : Nat) (a : List Tb) (hf : FitsT a) (hN : 1048576 < N) : ∀ (d k i : Nat), i + d = a.length → d < k → F76_l0 N a k (a.length : Int) (i : Int) = some (allF (tabB a) i d && decide ((a.length : Int) ≤ 8)) := by
  intro d
  have hs := hf.1
  induction d with
  | zero =>
    intro k i h hk
    rw [F76_l0_s _ _ (by omega), F76_l0_b]
    simp only [show ¬ (i : Int) < (a.length : Int) by omega, decide_false, cond_false, F76_j0, allF, Bool.true_and]
  | succ d ih =>
    intro k i h hk
    have hi : i < a.length := by omega
    have hsz := hf.2 _ (List.getElem_mem hi)
    rw [F76_l0_s _ _ (by omega), F76_l0_b]
    simp only [show (i : Int) < (a.length : Int) by omega, decide_true, cond_true, gd_true (inR hi), Int.toNat_natCast, getD_at hi, iWord_v (show a[i].1.size < N by omega) (show a[i].1.size < 4611686018427387904 by omega), andO_of, in_v, F76_j1]
    rw [w64 (x := (i : Int) + 1) (by omega) (by omega), show ((i : Int) + 1) = ((i + 1 : Nat) : Int) by omega, ih (k - 1) (i + 1) (by omega) (by omega)]
    simp only [allF, tabB, getD_at hi]
    cases wordB a[i].1 with
    | false => simp
    | true =>
      cases decide (1 ≤ a[i].2 ∧ a[i].2 ≤ 6) with
      | false => simp
      | true =>
        by_cases h0 : i = 0
        · subst h0
          simp
        · have hi1 : i - 1 < a.length := by omega
          simp only [show ((i : Nat) : Int) > 0 by omega, decide_true, cond_true, Bool.not_true, cond_false, h0, decide_false, Bool.false_or, Bool.true_and]
          rw [w64 (x := (i : Int) - 1) (by omega) (by omega), show ((i : Int) - 1) = ((i - 1 : Nat) : Int) by omega, gd_true (inR hi1), Int.toNat_natCast, getD_at hi1, getD_at hi1]
          cases Op.bytesLess a[i - 1].1.toList a[i].1.toList <;> simp
theorem sSchema_l (N : Nat) (a : List Tb) (hf : FitsT a) (hN : 1048576 < N) : ∀ (d k i : Nat), i + d = a.length → d < k → F72_l0 N a k (i : Int) = some (allF (tabB a) i d) := by
  intro d
  have hs := hf.1
  induction d with
  | zero =>
    intro k i h hk
    rw [F72_l0_s _ _ (by omega), F72_l0_b]
    simp only [show ¬ (i : Int) < (a.length : Int) by omega, decide_false, cond_false, F72_j0, allF]
  | succ d ih =>
    intro k i h hk
    have hi : i < a.length := by omega
    have hsz := hf.2 _ (List.getElem_mem hi)
    rw [F72_l0_s _ _ (by omega), F72_l0_b]
    simp only [show (i : Int) < (a.length : Int) by omega, decide_true, cond_true, gd_true (inR hi), Int.toNat_natCast, getD_at hi, sWord_v (show a[i].1.size < N by omega) (show a[i].1.size < 4611686018427387904 by omega), andO_of, l01In_v, F72_j1]
    rw [w64 (x := (i : Int) + 1) (by omega) (by omega), show ((i : Int) + 1) = ((i + 1 : Nat) : Int) by omega, ih (k - 1) (i + 1) (by omega) (by omega)]
    simp only [allF, tabB, getD_at hi]
    cases wordB a[i].1 with
    | false => simp
    | true =>
      cases decide (1 ≤ a[i].2 ∧ a[i].2 ≤ 6) with
      | false => simp
      | true =>
        by_cases h0 : i = 0
        · subst h0
          simp
        · have hi1 : i - 1 < a.length := by omega
          have hsz1 := hf.2 _ (List.getElem_mem hi1)
          simp only [show ((i : Nat) : Int) > 0 by omega, decide_true, cond_true, Bool.not_true, cond_false, h0, decide_false, Bool.false_or, Bool.true_and]
          rw [w64 (x := (i : Int) - 1) (by omega) (by omega), show ((i : Int) - 1) = ((i - 1 : Nat) : Int) by omega, gd_true (inR hi1), Int.toNat_natCast, getD_at hi1, getD_at hi1, less_v (by omega) (by omega), andO_of]
          cases Op.bytesLess a[i - 1].1.toList a[i].1.toList <;> simp
theorem schema_v {N : Nat} {a : List Tb} (hf : FitsT a) (hN : 1048576 < N) : ∃ b, F76 N a = some b ∧ F72 N a = some b := by
  have hs := hf.1
  have e1 := iSchema_l N a hf hN a.length N 0 (by omega) (by omega)
  have e2 := sSchema_l N a hf hN a.length N 0 (by omega) (by omega)
  unfold F76 F72
  refine ⟨_, e1, ?_⟩
  by_cases h : (a.length : Int) > 8
  · rw [decide_eq_true h, cond_true, decide_eq_false (show ¬ (a.length : Int) ≤ 8 by omega), Bool.and_false]
  · rw [decide_eq_false h, cond_false, decide_eq_true (show (a.length : Int) ≤ 8 by omega), Bool.and_true]
    exact e2
theorem l03Copy_l (N : Nat) (a : List Tb) (hs : a.length ≤ 1048576) : ∀ (d k i : Nat), i + d = a.length → d < k → F73_l0 N a k (a.take i) (i : Int) = some a := by
  intro d
  have hlim := lim_tb
  induction d with
  | zero =>
    intro k i h hk
    rw [F73_l0_s _ _ (by omega), F73_l0_b]
    simp only [show ¬ (i : Int) < (a.length : Int) by omega, decide_false, cond_false, F73_j0]
    rw [List.take_of_length_le (by omega)]
  | succ d ih =>
    intro k i h hk
    have hi : i < a.length := by omega
    rw [F73_l0_s _ _ (by omega), F73_l0_b]
    simp only [show (i : Int) < (a.length : Int) by omega, decide_true, cond_true, gd_true (inR hi), Int.toNat_natCast, getD_at hi]
    rw [gd_true (show (a.take i).length + [a[i]].length ≤ lim tbT by simp; omega), ← List.take_succ_eq_append_getElem hi, w64 (by omega) (by omega), show ((i : Int) + 1) = ((i + 1 : Nat) : Int) by omega]
    exact ih (k - 1) (i + 1) (by omega) (by omega)

theorem l03Copy_v {N : Nat} {a : List Tb} (hs : a.length ≤ 1048576) (hN : 1048576 < N) : F73 N a = some a := by
  unfold F73
  have := l03Copy_l N a hs a.length N 0 (by omega) (by omega)
  simpa using this
theorem cloneT_v {N : Nat} {a : List Tb} (hs : a.length ≤ 1048576) : F77 N a = some a := by
  unfold F77
  have hlim := lim_tb
  exact gd_true (show a.length ≤ lim tbT by omega)
theorem szTableS_l (N : Nat) (a : List Tb) (hL : LenT a) (hs : a.length < 4611686018427387904) : ∀ (d k i : Nat) (l : Int), i + d = a.length → d < k → 0 ≤ l → l ≤ 1048576 →
    ∃ r : Int, F16_l0 N a k l (i : Int) = some r ∧ r ≤ l ∧ (0 ≤ r → ∀ x ∈ a.drop i, x.1.size ≤ 1048576) := by
  intro d
  induction d with
  | zero =>
    intro k i l h hk h0 h1
    rw [F16_l0_s _ _ (by omega), F16_l0_b]
    refine ⟨l, by simp only [show ¬ (i : Int) < (a.length : Int) by omega, decide_false, cond_false, F16_j0], by omega, fun _ => ?_⟩
    rw [List.drop_eq_nil_of_le (by omega)]
    intro x hx; cases hx
  | succ d ih =>
    intro k i l h hk h0 h1
    have hi : i < a.length := by omega
    have hz := hL.2 _ (List.getElem_mem hi)
    rw [F16_l0_s _ _ (by omega), F16_l0_b]
    simp only [show (i : Int) < (a.length : Int) by omega, decide_true, cond_true, gd_true (inR hi), Int.toNat_natCast, getD_at hi, F70]
    rw [w64 (x := l - (a[i].1.size : Int)) (by omega) (by omega), w64 (x := (i : Int) + 1) (by omega) (by omega), show ((i : Int) + 1) = ((i + 1 : Nat) : Int) by omega]
    by_cases hr : l - (a[i].1.size : Int) < 0
    · exact ⟨-1, by simp [hr, andO_of], by omega, fun h => absurd h (by omega)⟩
    · obtain ⟨r', f1, f2, f4⟩ := ih (k - 1) (i + 1) (l - (a[i].1.size : Int)) (by omega) (by omega) (by omega) (by omega)
      refine ⟨r', by simp only [hr, decide_false, cond_false, andO_of, f1], by omega, fun h => ?_⟩
      rw [List.drop_eq_getElem_cons hi]
      intro x hx
      rcases List.mem_cons.mp hx with rfl | hx
      · omega
      · exact f4 h x hx

theorem szTableS_v {N : Nat} {a : List Tb} {l : Int} (hL : LenT a) (hN : 1048576 < N) (h0 : 0 ≤ l) (h1 : l ≤ 1048576) :
    ∃ r : Int, F16 N a l = some r ∧ (0 ≤ r → FitsT a) := by
  unfold F16
  have := hL.1
  rw [w64 (by omega) (by omega)]
  by_cases hb : l - (a.length : Int) < 0
  · exact ⟨-1, by simp [hb], fun h => absurd h (by omega)⟩
  · obtain ⟨r, e1, e2, e4⟩ := szTableS_l N a hL (by omega) a.length N 0 (l - a.length) (by omega) (by omega) (by omega) (by omega)
    refine ⟨r, ?_, fun h => ⟨by omega, by simpa using e4 h⟩⟩
    rw [decide_eq_false hb, cond_false]
    exact e1
theorem toTableS_l (N : Nat) (a : List Tb) (hs : a.length ≤ 1048576) : ∀ (d k i : Nat) (u : List Tb), i + d = a.length → u.length = d → d < k → F18_l0 N a k (a.take i ++ u) (i : Int) = some a := by
  intro d
  induction d with
  | zero =>
    intro k i u h hu hk
    rw [F18_l0_s _ _ (by omega), F18_l0_b]
    obtain rfl : u = [] := List.length_eq_zero_iff.mp hu
    simp only [show ¬ (i : Int) < (a.length : Int) by omega, decide_false, cond_false, F18_j0, List.append_nil]
    rw [List.take_of_length_le (by omega)]
  | succ d ih =>
    intro k i u h hu hk
    have hi : i < a.length := by omega
    cases u with
    | nil => simp at hu
    | cons y u =>
      simp only [List.length_cons] at hu
      have hl : (a.take i ++ y :: u).length = a.length := by simp; omega
      rw [F18_l0_s _ _ (by omega), F18_l0_b]
      simp only [hl, show (i : Int) < (a.length : Int) by omega, decide_true, cond_true, gd_true (inR hi), Int.toNat_natCast, gd_true hi, getD_at hi, F74, andO_of]
      rw [w64 (x := (i : Int) + 1) (by omega) (by omega), show ((i : Int) + 1) = ((i + 1 : Nat) : Int) by omega]
      have hset : (a.take i ++ y :: u).set i a[i] = a.take (i + 1) ++ u := by
        rw [List.set_append_right _ _ (by simp; omega)]
        have : i - (a.take i).length = 0 := by simp; omega
        rw [this, List.set_cons_zero, List.take_succ_eq_append_getElem hi, List.append_assoc, List.singleton_append]
      rw [hset]
      exact ih (k - 1) (i + 1) u (by omega) (by omega) (by omega)

theorem toTableS_v {N : Nat} {a : List Tb} (hs : a.length ≤ 1048576) (hN : 1048576 < N) : F18 N a = some a := by
  unfold F18
  have hl := lim_tb
  rw [gd_true ⟨by omega, by show (a.length : Int) ≤ (lim tbT : Int); omega, rfl⟩]
  have := toTableS_l N a hs a.length N 0 (List.replicate a.length (Ty.dflt tbT)) (by omega) (by simp) (by omega)
  simpa using this
theorem eqTableS_r {N : Nat} {a : List Tb} (hs : a.length ≤ 1048576) (hN : 1048576 < N) : F21 N a a = some true := by
  have key : ∀ (d k i : Nat), i + d = a.length → d < k → F21_l0 N a a k (i : Int) = some true := by
    intro d
    induction d with
    | zero =>
      intro k i h hk
      rw [F21_l0_s _ _ _ (by omega), F21_l0_b]
      simp only [show ¬ (i : Int) < (a.length : Int) by omega, decide_false, cond_false, F21_j0]
    | succ d ih =>
      intro k i h hk
      have hi : i < a.length := by omega
      rw [F21_l0_s _ _ _ (by omega), F21_l0_b]
      simp only [show (i : Int) < (a.length : Int) by omega, decide_true, cond_true, gd_true (inR hi), Int.toNat_natCast, getD_at hi, F79, beq_self_eq_true, Bool.not_true, cond_false, bne_self_eq_false, andO_of]
      rw [w64 (by omega) (by omega), show ((i : Int) + 1) = ((i + 1 : Nat) : Int) by omega]
      exact ih (k - 1) (i + 1) (by omega) (by omega)
  unfold F21
  simp only [bne_self_eq_false, cond_false]
  exact key a.length N 0 (by omega) (by omega)
def markT (N : Nat) : List Tb → Int → List Tb
  | [], _ => []
  | x :: l, m => (mkText N m, m + 1) :: markT N l (m + 1 + 1)

def markTK (l : List Tb) (m : Int) : Int := m + 2 * (l.length : Int)
theorem markTableX_l (N : Nat) (hN : 1048576 < N) : ∀ (l u : List Tb) (k : Nat) (m : Int), l.length < k → u.length + l.length ≤ 1048576 → 0 ≤ m → m + 2 * l.length ≤ 4000000000000 →
    F22_l0 N k (u ++ l) m (u.length : Int) = some (u ++ markT N l m, markTK l m) := by
  intro l
  induction l with
  | nil =>
    intro u k m hk hu h0 h1
    rw [F22_l0_s _ (by omega), F22_l0_b]
    simp only [List.append_nil, Int.lt_irrefl, decide_false, cond_false, F22_j0, markT, markTK]
    simp
  | cons x l ih =>
    intro u k m hk hu h0 h1
    simp only [List.length_cons] at hk hu h1
    have hi : u.length < (u ++ x :: l).length := by simp
    rw [F22_l0_s _ (by omega), F22_l0_b]
    have htx := mkText_v (N := N) (by omega) m (by omega)
    simp only [show (u.length : Int) < ((u ++ x :: l).length : Int) by simp; omega, decide_true, cond_true, htx, andO_of, List.length_set, gd_true (inR hi), Int.toNat_natCast, gd_true hi, getD_mid, set_mid]
    have hi2 : ∀ y : Tb, u.length < (u ++ y :: l).length := fun y => by simp
    rw [w64 (x := m + 1) (by omega) (by omega), w64 (x := m + 1 + 1) (by omega) (by omega)]
    simp only [gd_true (inR (hi2 _)), gd_true (hi2 _)]
    rw [w64 (x := (u.length : Int) + 1) (by omega) (by omega)]
    have := ih (u ++ [(mkText N m, m + 1)]) (k - 1) (m + 1 + 1) (by omega) (by simp; omega) (by omega) (by omega)
    simp only [List.append_assoc, List.singleton_append, List.length_append, List.length_singleton] at this
    rw [show ((u.length : Int) + 1) = ((u.length + 1 : Nat) : Int) by omega, markT]
    rw [show markTK (x :: l) m = markTK l (m + 1 + 1) by simp only [markTK, List.length_cons]; omega]
    exact this

theorem markTableX_v {N : Nat} {l : List Tb} (hs : l.length ≤ 1048576) (hN : 1048576 < N) : F22 N l 1 = some (markT N l 1, markTK l 1) := by
  unfold F22
  have := markTableX_l N hN l [] N 1 (by omega) (by simp; omega) (by omega) (by omega)
  simpa using this
theorem heldTableX_l (N : Nat) (hN : 1048576 < N) : ∀ (l u : List Tb) (k : Nat) (m : Int), l.length < k → u.length + l.length ≤ 1048576 → 0 ≤ m → m + 2 * l.length ≤ 4000000000000 →
    F81_l0 N (u ++ markT N l m) k m (u.length : Int) = some (markTK l m) := by
  intro l
  induction l with
  | nil =>
    intro u k m hk hu h0 h1
    rw [F81_l0_s _ _ (by omega), F81_l0_b]
    simp only [markT, List.append_nil, Int.lt_irrefl, decide_false, cond_false, F81_j0, markTK]
    simp
  | cons x l ih =>
    intro u k m hk hu h0 h1
    simp only [List.length_cons] at hk hu h1
    rw [markT]
    have hi2 : ∀ (y : Tb) (r : List Tb), u.length < (u ++ y :: r).length := fun y r => by simp
    rw [F81_l0_s _ _ (by omega), F81_l0_b]
    have htx := mkText_v (N := N) (by omega) m (by omega)
    have hlt : ∀ (y : Tb) (r : List Tb), (u.length : Int) < ((u ++ y :: r).length : Int) := fun y r => by have := hi2 y r; omega
    simp only [hlt, decide_true, cond_true, gd_true (inR (hi2 _ _)), Int.toNat_natCast, getD_mid, htx, andO_of, beq_self_eq_true, Bool.not_true, cond_false]
    rw [w64 (x := m + 1) (by omega) (by omega), w64 (x := m + 1 + 1) (by omega) (by omega), w64 (x := (u.length : Int) + 1) (by omega) (by omega)]
    simp only [bne_self_eq_false, cond_false]
    have := ih (u ++ [(mkText N m, m + 1)]) (k - 1) (m + 1 + 1) (by omega) (by simp; omega) (by omega) (by omega)
    simp only [List.append_assoc, List.singleton_append, List.length_append, List.length_singleton] at this
    rw [show ((u.length : Int) + 1) = ((u.length + 1 : Nat) : Int) by omega]
    rw [show markTK (x :: l) m = markTK l (m + 1 + 1) by simp only [markTK, List.length_cons]; omega]
    exact this

theorem heldTableX_v {N : Nat} {l : List Tb} (hs : l.length ≤ 1048576) (hN : 1048576 < N) : F81 N (markT N l 1) 1 = some (markTK l 1) := by
  unfold F81
  have := heldTableX_l N hN l [] N 1 (by omega) (by simp; omega) (by omega) (by omega)
  simpa using this
theorem entries_0 {N : Nat} (hN : 0 < N) (m : Int) : F78 N [] [] = some true ∧ F80 N [] m = some ([], m) ∧ F82 N [] m = some m := by
  refine ⟨?_, ?_, ?_⟩
  · unfold F78
    rw [F78_l0_s _ _ _ hN, F78_l0_b]
    rfl
  · unfold F80
    rw [F80_l0_s _ hN, F80_l0_b]
    rfl
  · unfold F82
    rw [F82_l0_s _ _ hN, F82_l0_b]
    rfl
theorem newShelf_v {N : Nat} (c : Int) {s : List Tb} (hf : FitsT s) (hN : 1048576 < N) : ∃ (c' : Int) (s' : List Tb) (b : Bool), s'.length ≤ 1048576 ∧ F19 N c s = some ((c', (s', ([], (0, (0, (0, (0, (0, 0)))))))), b) ∧ F17 N c s = some ((c', (s', ([], (0, (0, (0, (0, (0, 0)))))))), b) := by
  obtain ⟨b, h1, h2⟩ := schema_v hf hN
  have hs := hf.1
  unfold F19 F17
  simp only [isCap_v, l01In_v, andO_of, h1, h2, cloneT_v hs, l03Copy_v hs hN]
  cases decide (1 ≤ c ∧ c ≤ 16) with
  | false => exact ⟨0, [], false, by simp, rfl, rfl⟩
  | true =>
    cases b with
    | false => exact ⟨0, [], false, by simp, rfl, rfl⟩
    | true => exact ⟨c, s, true, hs, rfl, rfl⟩
theorem lawFnExactNewShelf (c : Int) (s : List Tb) (hc : (Ty.int .i64).wf c) (h : (Ty.sl tbT).wf s) : ∃ N, F4 N c s = some true := by
  refine ⟨3000000, ?_⟩
  unfold F4
  obtain ⟨r, e1, e4⟩ := szTableS_v (N := 3000000) (l := 1048576) (lenT_of h) (by omega) (by omega) (by omega)
  rw [e1, andO_of]
  by_cases hr : r < 0
  · rw [decide_eq_true hr, cond_true]
  · have hf := e4 (by omega)
    have hs := hf.1
    obtain ⟨c', s', b, hs', h1, h2⟩ := newShelf_v (N := 3000000) c hf (by omega)
    have m1 := markTableX_v (N := 3000000) hs (by omega)
    have m2 := markTableX_v (N := 3000000) hs' (by omega)
    have m3 := heldTableX_v (N := 3000000) hs' (by omega)
    have k1 : 0 ≤ markTK s 1 := by simp only [markTK]; omega
    have k2 : 0 ≤ markTK s' 1 := by simp only [markTK]; omega
    have n1 := fun m => (entries_0 (N := 3000000) (by omega) m).1
    have n2 := fun m => (entries_0 (N := 3000000) (by omega) m).2.1
    have n3 := fun m => (entries_0 (N := 3000000) (by omega) m).2.2
    have eqs : F20 3000000 (c', (s', ([], (0, (0, (0, (0, (0, 0)))))))) (c', (s', ([], (0, (0, (0, (0, (0, 0)))))))) = some true := by
      unfold F20
      simp only [bne_self_eq_false, cond_false, eqTableS_r (N := 3000000) hs' (by omega), andO_of, Bool.not_true, n1 0]
    rw [decide_eq_false hr, cond_false]
    simp only [toTableS_v (N := 3000000) hs (by omega), andO_of, h1, h2, eqs, Bool.not_true, cond_false, beq_self_eq_true, eqTableS_r (N := 3000000) hs (by omega), m1, dlt k1, F23, F24, m2, n2, m3, n3, dlt k2, bne_self_eq_false]
end Go.Proofs.Ytgpddckjpokclaa.Vc
