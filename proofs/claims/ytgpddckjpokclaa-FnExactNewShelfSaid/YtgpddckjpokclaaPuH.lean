/- Nodes that are written over, and read as they were written. -/
import Derived.Test.YtgpddckjpokclaaPuM
namespace Go.Proofs.Ytgpddckjpokclaa.Vc
open Go Go.RowKit
set_option linter.unusedVariables false
set_option linter.unusedSimpArgs false
/-- The text of a mark. -/
def mkText (N : Nat) (k : Int) : ByteArray := (F69 N k).getD ByteArray.empty

theorem mkText_v {N : Nat} (hN : 50 < N) (k : Int) (hk : k < 4611686018427387904) : F69 N k = some (mkText N k) := by
  obtain ⟨r, hr⟩ := markText_v hN k hk
  unfold mkText
  rw [hr]
  rfl

/-- The nodes of l, marked from m on. -/
def markL (N : Nat) : List Nd → Int → List Nd
  | [], _ => []
  | x :: l, m => (m, mkText N (m + 1), m + 1 + 1, m + 1 + 1 + 1, m + 1 + 1 + 1 + 1, Int.tmod (m + 1 + 1 + 1 + 1 + 1) 3 == 0, upFrom (m + 1 + 1 + 1 + 1 + 1 + 1) x.2.2.2.2.2.2.length) :: markL N l (m + 1 + 1 + 1 + 1 + 1 + 1 + x.2.2.2.2.2.2.length)

def markK : List Nd → Int → Int
  | [], m => m
  | x :: l, m => markK l (m + 1 + 1 + 1 + 1 + 1 + 1 + x.2.2.2.2.2.2.length)

theorem markL_length (N : Nat) : ∀ (l : List Nd) (m : Int), (markL N l m).length = l.length
  | [], _ => rfl
  | x :: l, m => by rw [markL, List.length_cons, markL_length N l, List.length_cons]

theorem markK_ge : ∀ (l : List Nd) (m : Int), m ≤ markK l m
  | [], m => by simp [markK]
  | x :: l, m => by
    rw [markK]
    have := markK_ge l (m + 1 + 1 + 1 + 1 + 1 + 1 + x.2.2.2.2.2.2.length)
    omega

theorem getD_mid {α : Type} (u : List α) (x d : α) (r : List α) : (u ++ x :: r).getD u.length d = x := by simp [List.getD]
theorem set_mid {α : Type} (u : List α) (x y : α) (r : List α) : (u ++ x :: r).set u.length y = u ++ y :: r := by simp
theorem markNodeX_l (N : Nat) (hN : 1048576 < N) : ∀ (l u : List Nd) (k : Nat) (m : Int), l.length < k → u.length + l.length ≤ 1048576 → 0 ≤ m → m + 2000000 * l.length ≤ 4000000000000 → (∀ x ∈ l, x.2.2.2.2.2.2.length ≤ 1048576) →
    F33_l0 N k (u ++ l) m (u.length : Int) = some (u ++ markL N l m, markK l m) := by
  intro l
  induction l with
  | nil =>
    intro u k m hk hu h0 h1 hc
    rw [F33_l0_s _ (by omega), F33_l0_b]
    simp only [List.append_nil, Int.lt_irrefl, decide_false, cond_false, F33_j0, markL, markK]
  | cons x l ih =>
    intro u k m hk hu h0 h1 hc
    simp only [List.length_cons] at hk hu h1
    have hcl := hc x List.mem_cons_self
    have hi : u.length < (u ++ x :: l).length := by simp
    rw [F33_l0_s _ (by omega), F33_l0_b]
    have htx := mkText_v (N := N) (by omega) (m + 1) (by omega)
    simp only [show (u.length : Int) < ((u ++ x :: l).length : Int) by simp; omega, decide_true, cond_true, List.length_set, gd_true (inR hi), Int.toNat_natCast, gd_true hi, getD_mid, set_mid]
    have hi2 : ∀ y : Nd, u.length < (u ++ y :: l).length := fun y => by simp
    rw [w64 (x := m + 1) (by omega) (by omega), htx, andO_of, w64 (x := m + 1 + 1) (by omega) (by omega), w64 (x := m + 1 + 1 + 1) (by omega) (by omega), w64 (x := m + 1 + 1 + 1 + 1) (by omega) (by omega), w64 (x := m + 1 + 1 + 1 + 1 + 1) (by omega) (by omega), w64 (x := m + 1 + 1 + 1 + 1 + 1 + 1) (by omega) (by omega)]
    try simp only [gd_true (inR (hi2 _)), gd_true (hi2 _)]
    rw [markIntS_v (show x.2.2.2.2.2.2.length < N by omega) (by omega) (by omega), andO_of, w64 (x := (u.length : Int) + 1) (by omega) (by omega)]
    have := ih (u ++ [(m, mkText N (m + 1), m + 1 + 1, m + 1 + 1 + 1, m + 1 + 1 + 1 + 1, Int.tmod (m + 1 + 1 + 1 + 1 + 1) 3 == 0, upFrom (m + 1 + 1 + 1 + 1 + 1 + 1) x.2.2.2.2.2.2.length)]) (k - 1) (m + 1 + 1 + 1 + 1 + 1 + 1 + x.2.2.2.2.2.2.length) (by omega) (by simp; omega) (by omega) (by omega) (fun z hz => hc z (List.mem_cons_of_mem _ hz))
    simp only [List.append_assoc, List.singleton_append, List.length_append, List.length_singleton] at this
    rw [show ((u.length : Int) + 1) = ((u.length + 1 : Nat) : Int) by omega]
    exact this

theorem markNodeX_v {N : Nat} {l : List Nd} (hs : l.length ≤ 1048576) (hc : ∀ x ∈ l, x.2.2.2.2.2.2.length ≤ 1048576) (hN : 1048576 < N) : F33 N l 1 = some (markL N l 1, markK l 1) := by
  unfold F33
  have := markNodeX_l N hN l [] N 1 (by omega) (by simp; omega) (by omega) (by omega) hc
  simpa using this
theorem heldNodeX_l (N : Nat) (hN : 1048576 < N) : ∀ (l u : List Nd) (k : Nat) (m : Int), l.length < k → u.length + l.length ≤ 1048576 → 0 ≤ m → m + 2000000 * l.length ≤ 4000000000000 → (∀ x ∈ l, x.2.2.2.2.2.2.length ≤ 1048576) →
    F50_l0 N (u ++ markL N l m) k m (u.length : Int) = some (markK l m) := by
  intro l
  induction l with
  | nil =>
    intro u k m hk hu h0 h1 hc
    rw [F50_l0_s _ _ (by omega), F50_l0_b]
    simp only [markL, List.append_nil, Int.lt_irrefl, decide_false, cond_false, F50_j0]
    rfl
  | cons x l ih =>
    intro u k m hk hu h0 h1 hc
    simp only [List.length_cons] at hk hu h1
    have hcl := hc x List.mem_cons_self
    rw [markL]
    have hi2 : ∀ (y : Nd) (r : List Nd), u.length < (u ++ y :: r).length := fun y r => by simp
    rw [F50_l0_s _ _ (by omega), F50_l0_b]
    have htx := mkText_v (N := N) (by omega) (m + 1) (by omega)
    have hlt : ∀ (y : Nd) (r : List Nd), (u.length : Int) < ((u ++ y :: r).length : Int) := fun y r => by have := hi2 y r; omega
    simp only [hlt, decide_true, cond_true, gd_true (inR (hi2 _ _)), Int.toNat_natCast, getD_mid, bne_self_eq_false, cond_false]
    rw [w64 (x := m + 1) (by omega) (by omega), htx, andO_of, w64 (x := m + 1 + 1) (by omega) (by omega), w64 (x := m + 1 + 1 + 1) (by omega) (by omega), w64 (x := m + 1 + 1 + 1 + 1) (by omega) (by omega), w64 (x := m + 1 + 1 + 1 + 1 + 1) (by omega) (by omega), w64 (x := m + 1 + 1 + 1 + 1 + 1 + 1) (by omega) (by omega)]
    simp only [beq_self_eq_true, Bool.not_true, cond_false, bne_self_eq_false]
    rw [heldIntS_v (show x.2.2.2.2.2.2.length < N by omega) (by omega) (by omega), andO_of, dlt (show 0 ≤ m + 1 + 1 + 1 + 1 + 1 + 1 + (x.2.2.2.2.2.2.length : Int) by omega), cond_false, w64 (x := (u.length : Int) + 1) (by omega) (by omega)]
    have := ih (u ++ [(m, mkText N (m + 1), m + 1 + 1, m + 1 + 1 + 1, m + 1 + 1 + 1 + 1, Int.tmod (m + 1 + 1 + 1 + 1 + 1) 3 == 0, upFrom (m + 1 + 1 + 1 + 1 + 1 + 1) x.2.2.2.2.2.2.length)]) (k - 1) (m + 1 + 1 + 1 + 1 + 1 + 1 + x.2.2.2.2.2.2.length) (by omega) (by simp; omega) (by omega) (by omega) (fun z hz => hc z (List.mem_cons_of_mem _ hz))
    simp only [List.append_assoc, List.singleton_append, List.length_append, List.length_singleton] at this
    rw [show ((u.length : Int) + 1) = ((u.length + 1 : Nat) : Int) by omega]
    exact this

theorem heldNodeX_v {N : Nat} {l : List Nd} (hs : l.length ≤ 1048576) (hc : ∀ x ∈ l, x.2.2.2.2.2.2.length ≤ 1048576) (hN : 1048576 < N) : F50 N (markL N l 1) 1 = some (markK l 1) := by
  unfold F50
  have := heldNodeX_l N hN l [] N 1 (by omega) (by simp; omega) (by omega) (by omega) hc
  simpa using this
theorem eqNodeC_r {N : Nat} {a : List Nd} (hs : a.length ≤ 1048576) (hc : ∀ x ∈ a, x.2.2.2.2.2.2.length ≤ 1048576) (hN : 1048576 < N) : F29 N a a = some true := by
  have key : ∀ (d k i : Nat), i + d = a.length → d < k → F29_l0 N a a k (i : Int) = some true := by
    intro d
    induction d with
    | zero =>
      intro k i h hk
      rw [F29_l0_s _ _ _ (by omega), F29_l0_b]
      simp only [show ¬ (i : Int) < (a.length : Int) by omega, decide_false, cond_false, F29_j0]
    | succ d ih =>
      intro k i h hk
      have hi : i < a.length := by omega
      rw [F29_l0_s _ _ _ (by omega), F29_l0_b]
      simp only [show (i : Int) < (a.length : Int) by omega, decide_true, cond_true, gd_true (inR hi), Int.toNat_natCast, getD_at hi, eqNode_r (hc _ (List.getElem_mem hi)) hN, andO_of, Bool.not_true, cond_false]
      rw [w64 (by omega) (by omega), show ((i : Int) + 1) = ((i + 1 : Nat) : Int) by omega]
      exact ih (k - 1) (i + 1) (by omega) (by omega)
  unfold F29
  simp only [bne_self_eq_false, cond_false]
  exact key a.length N 0 (by omega) (by omega)
end Go.Proofs.Ytgpddckjpokclaa.Vc
