/- Texts joined: the texts of steps and of caches. -/
import Derived.Test.YtgpddckjpokclaaDoorPuD
import Derived.Test.YtgpddckjpokclaaDoorPuS
namespace Go.Proofs.YtgpddckjpokclaaDoor.Vc
open Go Go.RowKit
set_option linter.unusedVariables false
set_option linter.unusedSimpArgs false

/-- Texts with a blank between each two. -/
def joinV (l : List ByteArray) : ByteArray := ⟨(Lib.join (l.map (·.data.toList)) [32]).toArray⟩

theorem inter_snoc (sep x : List UInt8) : ∀ l : List (List UInt8), l ≠ [] → sep.intercalate (l ++ [x]) = sep.intercalate l ++ (sep ++ x)
  | [a], _ => by simp [List.intercalate]
  | a :: b :: r, _ => by
    have h : (List.intersperse sep (b :: (r ++ [x]))).flatten = (List.intersperse sep (b :: r)).flatten ++ (sep ++ x) := inter_snoc sep x (b :: r) (by simp)
    show (a :: sep :: List.intersperse sep (b :: (r ++ [x]))).flatten = (a :: sep :: List.intersperse sep (b :: r)).flatten ++ (sep ++ x)
    rw [List.flatten_cons, List.flatten_cons, h, List.flatten_cons, List.flatten_cons]
    simp [List.append_assoc]

theorem joinV_one (x : ByteArray) : joinV [x] = x := by
  apply ByteArray.ext
  simp [joinV, Lib.join, List.intercalate]

theorem joinV_nil : joinV [] = ByteArray.empty := rfl

theorem joinV_snoc (l : List ByteArray) (x : ByteArray) (h : l ≠ []) : joinV (l ++ [x]) = (joinV l ++ (⟨#[32]⟩ : ByteArray)) ++ x := by
  apply ByteArray.ext
  have := inter_snoc [32] x.data.toList (l.map (·.data.toList)) (by simpa using h)
  simp only [joinV, Lib.join, List.map_append, List.map_cons, List.map_nil, this, ByteArray.data_append]
  simp

theorem inter_len (c : Nat) : ∀ l : List (List UInt8), (∀ x ∈ l, x.length ≤ c) → (List.intercalate [32] l).length ≤ (c + 1) * l.length
  | [], _ => by simp [List.intercalate]
  | [a], h => by
    have := h a (by simp)
    simp [List.intercalate]
    omega
  | a :: b :: r, h => by
    have h1 := h a (by simp)
    have h2 : (List.intersperse [32] (b :: r)).flatten.length ≤ (c + 1) * (b :: r).length := inter_len c (b :: r) (fun x hx => h x (List.mem_cons_of_mem _ hx))
    show (a :: [32] :: List.intersperse [32] (b :: r)).flatten.length ≤ _
    rw [List.flatten_cons, List.flatten_cons, List.length_append, List.length_append]
    simp only [List.length_cons, List.length_nil] at h2 ⊢
    rw [show (c + 1) * (r.length + 1 + 1) = (c + 1) * (r.length + 1) + (c + 1) by rw [Nat.mul_add (c + 1) (r.length + 1) 1, Nat.mul_one]]
    omega

theorem joinV_len {c : Nat} {l : List ByteArray} (h : ∀ x ∈ l, x.size ≤ c) : (Lib.join (l.map (·.data.toList)) [32]).length ≤ (c + 1) * l.length := by
  have := inter_len c (l.map (·.data.toList)) (fun x hx => by
    rw [List.mem_map] at hx
    obtain ⟨y, hy, rfl⟩ := hx
    show y.data.toList.length ≤ c
    rw [Array.length_toList]
    exact h y hy)
  rw [List.length_map] at this
  exact this

theorem joinV_size {c : Nat} {l : List ByteArray} (h : ∀ x ∈ l, x.size ≤ c) : (joinV l).size ≤ (c + 1) * l.length := by
  have := joinV_len h
  show (Lib.join (l.map (·.data.toList)) [32]).toArray.size ≤ _
  rw [List.size_toArray]
  exact this
theorem spaced_v {N c : Nat} {l : List ByteArray} (h : ∀ x ∈ l, x.size ≤ c) (hl : (c + 1) * l.length ≤ 140737488355328) : F43 N l = some (joinV l) := by
  have h1 := joinV_len h
  have h2 : l.length ≤ (c + 1) * l.length := Nat.le_mul_of_pos_left _ (by omega)
  unfold F43 F65
  rw [gd_true ⟨by omega, by show (Lib.join (l.map (·.data.toList)) [32]).length ≤ _; omega⟩, andO_of]
  rfl
theorem stepSize {a : Sp} (h : In64 a.1 ∧ In64 a.2) : (stepV a).size ≤ 43 := by
  have s1 := itoaSize h.1.1 h.1.2
  have s2 := itoaSize h.2.1 h.2.2
  have h64 : (⟨#[64]⟩ : ByteArray).size = 1 := rfl
  unfold stepV
  rw [ByteArray.size_append, ByteArray.size_append, h64]
  omega

theorem iSteps_l (N : Nat) (a : List Sp) (hs : a.length ≤ 20) (hw : ∀ x ∈ a, In64 x.1 ∧ In64 x.2) : ∀ (d k i : Nat), i + d = a.length → d < k → F23_l0 N a k ((a.map stepV).take i) (a.length : Int) (i : Int) = some (joinV (a.map stepV)) := by
  intro d
  have hlim := lim_str
  induction d with
  | zero =>
    intro k i h hk
    rw [F23_l0_s _ _ (by omega), F23_l0_b]
    simp only [show ¬ (i : Int) < (a.length : Int) by omega, decide_false, cond_false, F23_j0]
    rw [List.take_of_length_le (by simp; omega), spaced_v (c := 43) (fun x hx => by
      rw [List.mem_map] at hx
      obtain ⟨y, hy, rfl⟩ := hx
      exact stepSize (hw y hy)) (by simp; omega), andO_of]
  | succ d ih =>
    intro k i h hk
    have hi : i < a.length := by omega
    have him : i < (a.map stepV).length := by simpa using hi
    have hx := hw _ (List.getElem_mem hi)
    rw [F23_l0_s _ _ (by omega), F23_l0_b]
    simp only [show (i : Int) < (a.length : Int) by omega, decide_true, cond_true, gd_true (inR hi), Int.toNat_natCast, getD_at hi, iStep_v (N := N) hx.1 hx.2, andO_of]
    rw [gd_true (by rw [List.length_take]; simp; omega), show stepV a[i] = (a.map stepV)[i] by simp, ← List.take_succ_eq_append_getElem him, w64 (by omega) (by omega), show ((i : Int) + 1) = ((i + 1 : Nat) : Int) by omega]
    exact ih (k - 1) (i + 1) (by omega) (by omega)

theorem sSteps_l (N : Nat) (hN : 50 < N) (a : List Sp) (hs : a.length ≤ 20) (hw : ∀ x ∈ a, In64 x.1 ∧ In64 x.2) : ∀ (d k i : Nat), i + d = a.length → d < k → F21_l0 N a k (joinV ((a.map stepV).take i)) (i : Int) = some (joinV (a.map stepV)) := by
  intro d
  induction d with
  | zero =>
    intro k i h hk
    rw [F21_l0_s _ _ (by omega), F21_l0_b]
    simp only [show ¬ (i : Int) < (a.length : Int) by omega, decide_false, cond_false, F21_j0]
    rw [List.take_of_length_le (by simp; omega)]
  | succ d ih =>
    intro k i h hk
    have hi : i < a.length := by omega
    have him : i < (a.map stepV).length := by simpa using hi
    have hx := hw _ (List.getElem_mem hi)
    have hsz := stepSize hx
    have hjs : (joinV ((a.map stepV).take i)).size ≤ 44 * i := by
      have := joinV_size (c := 43) (l := (a.map stepV).take i) (fun x hx => by
        have := List.mem_of_mem_take hx
        rw [List.mem_map] at this
        obtain ⟨y, hy, rfl⟩ := this
        exact stepSize (hw y hy))
      rw [List.length_take] at this
      have h2 : min i (a.map stepV).length ≤ i := Nat.min_le_left _ _
      omega
    have h32 : (⟨#[32]⟩ : ByteArray).size = 1 := rfl
    rw [F21_l0_s _ _ (by omega), F21_l0_b]
    simp only [show (i : Int) < (a.length : Int) by omega, decide_true, cond_true, F21_j1, gd_true (inR hi), Int.toNat_natCast, getD_at hi, sStep_v (N := N) hN hx.1 hx.2, andO_of]
    rw [w64 (x := (i : Int) + 1) (by omega) (by omega), show ((i : Int) + 1) = ((i + 1 : Nat) : Int) by omega]
    have hnext := ih (k - 1) (i + 1) (by omega) (by omega)
    rw [List.take_succ_eq_append_getElem him, show (a.map stepV)[i] = stepV a[i] by simp] at hnext
    by_cases h0 : i = 0
    · subst h0
      rw [decide_eq_false (by omega), cond_false, List.take_zero, joinV_nil, gd_true (by show 0 + _ ≤ _; omega)]
      rw [List.take_zero, List.nil_append, joinV_one] at hnext
      rw [ByteArray.empty_append]
      exact hnext
    · rw [decide_eq_true (by omega), cond_true, gd_true (by rw [h32]; omega), gd_true (by rw [ByteArray.size_append, h32]; omega)]
      rw [joinV_snoc _ _ (by
        intro e
        have := congrArg List.length e
        rw [List.length_take] at this
        simp only [List.length_nil, List.length_map] at this
        omega)] at hnext
      exact hnext
theorem lawFnExactStepsText (a : List Sp) (h : (Ty.sl (.pair (.int .i64) (.int .i64))).wf a) : ∃ N, F5 N a = some true := by
  have h1 : a.length ≤ 9223372036854775807 := h.1
  have hw : ∀ x ∈ a, In64 x.1 ∧ In64 x.2 := fun x hx => in64_of (h.2 x hx)
  by_cases hs : (a.length : Int) ≤ 1048576
  · refine ⟨3000000, ?_⟩
    obtain ⟨r, e1, e2⟩ : ∃ r, F23 3000000 a = some r ∧ F21 3000000 a = some r := by
      unfold F23 F21
      by_cases hl : (a.length : Int) > 20
      · rw [decide_eq_true hl]
        exact ⟨_, rfl, rfl⟩
      · rw [decide_eq_false hl, cond_false, cond_false]
        have f1 := iSteps_l 3000000 a (by omega) hw a.length 3000000 0 (by omega) (by omega)
        have f2 := sSteps_l 3000000 (by omega) a (by omega) hw a.length 3000000 0 (by omega) (by omega)
        exact ⟨_, f1, f2⟩
    unfold F5
    rw [szStepS_v (by omega) (by omega) h1, andO_of, if_pos hs]
    simp only [dlt (show (0 : Int) ≤ 1048576 - (a.length : Int) by omega), cond_false, toStepS_v (N := 3000000) (a := a) (by omega) (by omega), andO_of, e1, e2, beq_self_eq_true, Bool.not_true, eqStepS_v (N := 3000000) (a := a) (b := a) (by omega) (by omega), decide_true]
  · refine ⟨1, ?_⟩
    unfold F5
    rw [szStepS_v (by omega) (by omega) h1, andO_of, if_neg hs]
    rfl
/-- A pair of a cache, as a text. -/
def entV (k v : Int) : ByteArray := (⟨(Lib.itoa k).toArray⟩ ++ (⟨#[61]⟩ : ByteArray)) ++ ⟨(Lib.itoa v).toArray⟩

theorem entSize {k v : Int} (h1 : In64 k) (h2 : In64 v) : (entV k v).size ≤ 43 := by
  have s1 := itoaSize h1.1 h1.2
  have s2 := itoaSize h2.1 h2.2
  have h61 : (⟨#[61]⟩ : ByteArray).size = 1 := rfl
  unfold entV
  rw [ByteArray.size_append, ByteArray.size_append, h61]
  omega

def entsV (ks vs : List Int) : List ByteArray := List.zipWith entV ks vs

theorem entsV_at {ks vs : List Int} {i : Nat} (h : i < (entsV ks vs).length) (h1 : i < ks.length) (h2 : i < vs.length) : (entsV ks vs)[i] = entV ks[i] vs[i] := by simp [entsV]

theorem entsV_size {ks vs : List Int} (hv : ∀ x ∈ vs, In64 x) (hk : ∀ x ∈ ks, In64 x) : ∀ x ∈ entsV ks vs, x.size ≤ 43 := by
  intro x hx
  obtain ⟨i, hi, rfl⟩ := List.mem_iff_getElem.1 hx
  have h2 : i < (List.zipWith entV ks vs).length := hi
  rw [List.length_zipWith] at h2
  rw [entsV_at hi (by omega) (by omega)]
  exact entSize (hk _ (List.getElem_mem _)) (hv _ (List.getElem_mem _))
end Go.Proofs.YtgpddckjpokclaaDoor.Vc
