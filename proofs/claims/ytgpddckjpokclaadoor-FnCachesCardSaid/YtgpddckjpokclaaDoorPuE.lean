/- Texts joined: the texts of steps and of caches. -/
import Derived.Test.YtgpddckjpokclaaDoorPuD
import Derived.Test.YtgpddckjpokclaaDoorPuS
namespace Go.Proofs.YtgpddckjpokclaaDoor.Vc
open Go Go.RowKit
set_option linter.unusedVariables false
set_option linter.unusedSimpArgs false

/-- Texts with a blank between each two. -/
def joinV (l : List ByteArray) : ByteArray := ⟨(Lib.join (l.map (·.data.toList)) [32]).toArray⟩

theorem inter_snoc (sep x : List UInt8) : ∀ l : List (List UInt8), l ≠ [] → sep.intercalate (l ++ [x]) = sep.intercalate l ++ (sep ++ x)
  | [a], _ => by simp [List.intercalate]
  | a :: b :: r, _ => by
    have h : (List.intersperse sep (b :: (r ++ [x]))).flatten = (List.intersperse sep (b :: r)).flatten ++ (sep ++ x) := inter_snoc sep x (b :: r) (by simp)
    show (a :: sep :: List.intersperse sep (b :: (r ++ [x]))).flatten = (a :: sep :: List.intersperse sep (b :: r)).flatten ++ (sep ++ x)
    rw [List.flatten_cons, List.flatten_cons, h, List.flatten_cons, List.flatten_cons]
    simp [List.append_assoc]

theorem joinV_one (x : ByteArray) : joinV [x] = x := by
  apply ByteArray.ext
  simp [joinV, Lib.join, List.intercalate]

theorem joinV_nil : joinV [] = ByteArray.empty := rfl

theorem joinV_snoc (l : List ByteArray) (x : ByteArray) (h : l ≠ []) : joinV (l ++ [x]) = (joinV l ++ (⟨#[32]⟩ : ByteArray)) ++ x := by
  apply ByteArray.ext
  have := inter_snoc [32] x.data.toList (l.map (·.data.toList)) (by simpa using h)
  simp only [joinV, Lib.join, List.map_append, List.map_cons, List.map_nil, this, ByteArray.data_append]
  simp

theorem inter_len (c : Nat) : ∀ l : List (List UInt8), (∀ x ∈ l, x.length ≤ c) → (List.intercalate [32] l).length ≤ (c + 1) * l.length
  | [], _ => by simp [List.intercalate]
  | [a], h => by
    have := h a (by simp)
    simp [List.intercalate]
    omega
  | a :: b :: r, h => by
    have h1 := h a (by simp)
    have h2 : (List.intersperse [32] (b :: r)).flatten.length ≤ (c + 1) * (b :: r).length := inter_len c (b :: r) (fun x hx => h x (List.mem_cons_of_mem _ hx))
    show (a :: [32] :: List.intersperse [32] (b :: r)).flatten.length ≤ _
    rw [List.flatten_cons, List.flatten_cons, List.length_append, List.length_append]
    simp only [List.length_cons, List.length_nil] at h2 ⊢
    rw [show (c + 1) * (r.length + 1 + 1) = (c + 1) * (r.length + 1) + (c + 1) by rw [Nat.mul_add (c + 1) (r.length + 1) 1, Nat.mul_one]]
    omega

theorem joinV_len {c : Nat} {l : List ByteArray} (h : ∀ x ∈ l, x.size ≤ c) : (Lib.join (l.map (·.data.toList)) [32]).length ≤ (c + 1) * l.length := by
  have := inter_len c (l.map (·.data.toList)) (fun x hx => by
    rw [List.mem_map] at hx
    obtain ⟨y, hy, rfl⟩ := hx
    show y.data.toList.length ≤ c
    rw [Array.length_toList]
    exact h y hy)
  rw [List.length_map] at this
  exact this

theorem joinV_size {c : Nat} {l : List ByteArray} (h : ∀ x ∈ l, x.size ≤ c) : (joinV l).size ≤ (c + 1) * l.length := by
  have := joinV_len h
  show (Lib.join (l.map (·.data.toList)) [32]).toArray.size ≤ _
  rw [List.size_toArray]
  exact this
theorem spaced_v {N c : Nat} {l : List ByteArray} (h : ∀ x ∈ l, x.size ≤ c) (hl : (c + 1) * l.length ≤ 140737488355328) : F43 N l = some (joinV l) := by
  have h1 := joinV_len h
  have h2 : l.length ≤ (c + 1) * l.length := Nat.le_mul_of_pos_left _ (by omega)
  unfold F43 F65
  rw [gd_true ⟨by omega, by show (Lib.join (l.map (·.data.toList)) [32]).length ≤ _; omega⟩, andO_of]
  rfl
/-- A pair of a cache, as a text. -/
def entV (k v : Int) : ByteArray := (⟨(Lib.itoa k).toArray⟩ ++ (⟨#[61]⟩ : ByteArray)) ++ ⟨(Lib.itoa v).toArray⟩

theorem entSize {k v : Int} (h1 : In64 k) (h2 : In64 v) : (entV k v).size ≤ 43 := by
  have s1 := itoaSize h1.1 h1.2
  have s2 := itoaSize h2.1 h2.2
  have h61 : (⟨#[61]⟩ : ByteArray).size = 1 := rfl
  unfold entV
  rw [ByteArray.size_append, ByteArray.size_append, h61]
  omega

def entsV (ks vs : List Int) : List ByteArray := List.zipWith entV ks vs

theorem entsV_at {ks vs : List Int} {i : Nat} (h : i < (entsV ks vs).length) (h1 : i < ks.length) (h2 : i < vs.length) : (entsV ks vs)[i] = entV ks[i] vs[i] := by simp [entsV]

theorem entsV_size {ks vs : List Int} (hv : ∀ x ∈ vs, In64 x) (hk : ∀ x ∈ ks, In64 x) : ∀ x ∈ entsV ks vs, x.size ≤ 43 := by
  intro x hx
  obtain ⟨i, hi, rfl⟩ := List.mem_iff_getElem.1 hx
  have h2 : i < (List.zipWith entV ks vs).length := hi
  rw [List.length_zipWith] at h2
  rw [entsV_at hi (by omega) (by omega)]
  exact entSize (hk _ (List.getElem_mem _)) (hv _ (List.getElem_mem _))
theorem iCT_l (N : Nat) (c0 : Int) (ks vs : List Int) (hv : vs.length = ks.length) (hs : ks.length ≤ 16) (hwk : ∀ x ∈ ks, In64 x) (hwv : ∀ x ∈ vs, In64 x) : ∀ (d k i : Nat), i + d = ks.length → d < k →
    F12_l0 N k c0 ks vs ((entsV ks vs).take i) ks (ks.length : Int) (i : Int) = some (joinV (entsV ks vs)) := by
  intro d
  have hlim := lim_str
  have hel : (entsV ks vs).length = ks.length := by simp [entsV]; omega
  induction d with
  | zero =>
    intro k i h hk
    rw [F12_l0_s _ (by omega), F12_l0_b]
    simp only [show ¬ (i : Int) < (ks.length : Int) by omega, decide_false, cond_false, F12_j0]
    rw [List.take_of_length_le (by omega), spaced_v (c := 43) (entsV_size hwv hwk) (by rw [hel]; omega), andO_of]
  | succ d ih =>
    intro k i h hk
    have hi : i < ks.length := by omega
    have hi2 : i < vs.length := by omega
    have him : i < (entsV ks vs).length := by omega
    have hx := hwk _ (List.getElem_mem hi)
    have hy := hwv _ (List.getElem_mem hi2)
    have s1 := itoaSize hx.1 hx.2
    have s2 := itoaSize hy.1 hy.2
    have h61 : (⟨#[61]⟩ : ByteArray).size = 1 := rfl
    rw [F12_l0_s _ (by omega), F12_l0_b]
    simp only [show (i : Int) < (ks.length : Int) by omega, decide_true, cond_true, gd_true (inR hi), gd_true (inR hi2), Int.toNat_natCast, getD_at hi, getD_at hi2, number_v (N := N) hx.1 hx.2, number_v (N := N) hy.1 hy.2, andO_of]
    rw [gd_true (by rw [h61]; omega), gd_true (by rw [ByteArray.size_append, h61]; omega), gd_true (by rw [List.length_take]; simp; omega)]
    rw [show (⟨(Lib.itoa ks[i]).toArray⟩ ++ (⟨#[61]⟩ : ByteArray)) ++ ⟨(Lib.itoa vs[i]).toArray⟩ = (entsV ks vs)[i] from (entsV_at him hi hi2).symm, ← List.take_succ_eq_append_getElem him, w64 (by omega) (by omega), show ((i : Int) + 1) = ((i + 1 : Nat) : Int) by omega]
    exact ih (k - 1) (i + 1) (by omega) (by omega)

theorem sCT_l (N : Nat) (hN : 50 < N) (c0 : Int) (ks vs : List Int) (hv : vs.length = ks.length) (hs : ks.length ≤ 16) (hwk : ∀ x ∈ ks, In64 x) (hwv : ∀ x ∈ vs, In64 x) : ∀ (d k i : Nat), i + d = ks.length → d < k →
    F13_l0 N k c0 ks vs (joinV ((entsV ks vs).take i)) (i : Int) = some (joinV (entsV ks vs)) := by
  intro d
  have hel : (entsV ks vs).length = ks.length := by simp [entsV]; omega
  induction d with
  | zero =>
    intro k i h hk
    rw [F13_l0_s _ (by omega), F13_l0_b]
    simp only [show ¬ (i : Int) < (ks.length : Int) by omega, decide_false, cond_false, F13_j0]
    rw [List.take_of_length_le (by omega)]
  | succ d ih =>
    intro k i h hk
    have hi : i < ks.length := by omega
    have hi2 : i < vs.length := by omega
    have him : i < (entsV ks vs).length := by omega
    have hx := hwk _ (List.getElem_mem hi)
    have hy := hwv _ (List.getElem_mem hi2)
    have s1 := itoaSize hx.1 hx.2
    have s2 := itoaSize hy.1 hy.2
    have h61 : (⟨#[61]⟩ : ByteArray).size = 1 := rfl
    have h32 : (⟨#[32]⟩ : ByteArray).size = 1 := rfl
    have hjs : (joinV ((entsV ks vs).take i)).size ≤ 44 * i := by
      have := joinV_size (c := 43) (l := (entsV ks vs).take i) (fun x hx => entsV_size hwv hwk x (List.mem_of_mem_take hx))
      rw [List.length_take] at this
      have h2 : min i (entsV ks vs).length ≤ i := Nat.min_le_left _ _
      omega
    rw [F13_l0_s _ (by omega), F13_l0_b]
    simp only [show (i : Int) < (ks.length : Int) by omega, decide_true, cond_true, F13_j1, gd_true (inR hi), gd_true (inR hi2), Int.toNat_natCast, getD_at hi, getD_at hi2, l01Num_v (N := N) hN hx.1 hx.2, l01Num_v (N := N) hN hy.1 hy.2, andO_of]
    rw [w64 (x := (i : Int) + 1) (by omega) (by omega), show ((i : Int) + 1) = ((i + 1 : Nat) : Int) by omega]
    have hnext := ih (k - 1) (i + 1) (by omega) (by omega)
    rw [List.take_succ_eq_append_getElem him, entsV_at him hi hi2] at hnext
    by_cases h0 : i = 0
    · subst h0
      rw [decide_eq_false (by omega), cond_false, List.take_zero, joinV_nil, ByteArray.empty_append]
      rw [List.take_zero, List.nil_append, joinV_one] at hnext
      rw [gd_true (by show 0 + _ ≤ _; omega), gd_true (by rw [h61]; omega), gd_true (by rw [ByteArray.size_append, h61]; omega)]
      exact hnext
    · rw [joinV_snoc _ _ (by
        intro e
        have := congrArg List.length e
        rw [List.length_take] at this
        simp only [List.length_nil, List.length_map] at this
        omega)] at hnext
      rw [decide_eq_true (by omega), cond_true, gd_true (by rw [h32]; omega), gd_true (by rw [ByteArray.size_append, h32]; omega), gd_true (by rw [ByteArray.size_append, ByteArray.size_append, h32, h61]; omega), gd_true (by rw [ByteArray.size_append, ByteArray.size_append, ByteArray.size_append, h32, h61]; omega)]
      simp only [entV, ByteArray.append_assoc] at hnext ⊢
      exact hnext
end Go.Proofs.YtgpddckjpokclaaDoor.Vc
