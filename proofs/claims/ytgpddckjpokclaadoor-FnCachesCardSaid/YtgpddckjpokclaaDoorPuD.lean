/- Numbers' texts, and texts joined. -/
import Derived.Test.YtgpddckjpokclaaDoorPuL
namespace Go.Proofs.YtgpddckjpokclaaDoor.Vc
open Go Go.RowKit
set_option linter.unusedVariables false
set_option linter.unusedSimpArgs false

def In64 (x : Int) : Prop := -9223372036854775808 ≤ x ∧ x ≤ 9223372036854775807

theorem decLen : ∀ (d u : Nat), u < 10 ^ (d + 1) → (Lib.decDigits u).length ≤ d + 1
  | 0, u, h => by
    rw [Lib.decDigits, dif_pos (by simpa using h)]
    simp
  | d + 1, u, h => by
    rw [Lib.decDigits]
    split
    · simp
    · have := decLen d (u / 10) (by rw [Nat.pow_succ] at h; omega)
      simp
      omega

theorem itoaLen {n : Int} (h1 : -9223372036854775808 ≤ n) (h2 : n ≤ 9223372036854775807) : (Lib.itoa n).length ≤ 21 := by
  unfold Lib.itoa
  split
  · have := decLen 19 n.natAbs (by have : (10 : Nat) ^ (19 + 1) = 100000000000000000000 := by decide
                                   omega)
    simp
    omega
  · have := decLen 19 n.toNat (by have : (10 : Nat) ^ (19 + 1) = 100000000000000000000 := by decide
                                  omega)
    omega

theorem ba_append (a b : Array UInt8) : (⟨a⟩ : ByteArray) ++ ⟨b⟩ = ⟨a ++ b⟩ := by
  apply ByteArray.ext
  simp

theorem strOneN (n : Nat) : strOfNums [(n : Int)] = ⟨#[UInt8.ofNat n]⟩ := by
  simp [strOfNums]

theorem tmod_abs (x : Int) : (Int.tmod x 10 < 0 ∧ 0 - Int.tmod x 10 = ((x.natAbs % 10 : Nat) : Int)) ∨ (¬ Int.tmod x 10 < 0 ∧ Int.tmod x 10 = ((x.natAbs % 10 : Nat) : Int)) := by
  rcases Int.natAbs_eq x with h | h
  · rw [h]
    simp only [Int.natAbs_natCast]
    right
    have : Int.tmod ((x.natAbs : Nat) : Int) 10 = ((x.natAbs % 10 : Nat) : Int) := Int.ofNat_tmod _ 10
    omega
  · rw [h]
    simp only [Int.natAbs_neg, Int.natAbs_natCast, Int.neg_tmod]
    have : Int.tmod ((x.natAbs : Nat) : Int) 10 = ((x.natAbs % 10 : Nat) : Int) := Int.ofNat_tmod _ 10
    omega

theorem tdiv_abs (x : Int) : (Int.tdiv x 10).natAbs = x.natAbs / 10 := by
  rw [Int.natAbs_tdiv]
  rfl
theorem l01Num_l (N : Nat) (neg : Bool) : ∀ (d k : Nat) (x : Int) (s : ByteArray), x ≠ 0 → x.natAbs < 10 ^ d → d < k → s.size + d ≤ 1000 → -9223372036854775808 ≤ x → x ≤ 9223372036854775807 →
    F45_l0 N k x s neg = F45_j0 N (⟨(Lib.decDigits x.natAbs).toArray⟩ ++ s) neg := by
  intro d
  induction d with
  | zero =>
    intro k x s h0 h1 hk hs h2 h3
    simp at h1
    omega
  | succ d ih =>
    intro k x s h0 h1 hk hs h2 h3
    have hne : (x != 0) = true := by simpa using h0
    have hm : x.natAbs % 10 < 10 := Nat.mod_lt _ (by omega)
    have hj : F45_l0 N k x s neg = F45_j1 N (F45_l0 N (k - 1)) x s neg ((x.natAbs % 10 : Nat) : Int) := by
      rw [F45_l0_s _ (by omega), F45_l0_b, hne, cond_true]
      rcases tmod_abs x with ⟨a, b⟩ | ⟨a, b⟩
      · rw [decide_eq_true a, cond_true, b, w64 (by omega) (by omega)]
      · rw [decide_eq_false a, cond_false, b]
    have hda := tdiv_abs x
    rw [hj, F45_j1, w64 (x := 48 + ((x.natAbs % 10 : Nat) : Int)) (by omega) (by omega), w8 (by omega) (by omega), show (48 : Int) + ((x.natAbs % 10 : Nat) : Int) = ((48 + x.natAbs % 10 : Nat) : Int) by omega, strOneN]
    have h1s : (⟨#[UInt8.ofNat (48 + x.natAbs % 10)]⟩ : ByteArray).size = 1 := rfl
    rw [gd_true (by rw [h1s]; omega), w64 (x := Int.tdiv x 10) (by omega) (by omega)]
    by_cases hu : x.natAbs < 10
    · have hz : Int.tdiv x 10 = 0 := by omega
      rw [hz, F45_l0_s _ (by omega), F45_l0_b]
      simp only [bne_self_eq_false, cond_false]
      rw [Lib.decDigits, dif_pos hu, Nat.mod_eq_of_lt hu]
    · rw [ih (k - 1) (Int.tdiv x 10) _ (by omega) (by rw [Nat.pow_succ] at h1; omega) (by omega) (by rw [ByteArray.size_append, h1s]; omega) (by omega) (by omega), hda]
      congr 1
      rw [Lib.decDigits.eq_1 x.natAbs, dif_neg hu]
      apply ByteArray.ext
      simp

theorem l01Num_v {N : Nat} {n : Int} (hN : 50 < N) (h1 : -9223372036854775808 ≤ n) (h2 : n ≤ 9223372036854775807) : F45 N n = some ⟨(Lib.itoa n).toArray⟩ := by
  unfold F45
  by_cases h0 : n = 0
  · subst h0
    simp only [beq_self_eq_true, cond_true]
    have : Lib.itoa 0 = [48] := by
      unfold Lib.itoa
      rw [if_neg (by omega), Lib.decDigits, dif_pos (by decide)]
      rfl
    rw [this]
  · have he : (n == 0) = false := by simpa using h0
    have e20 : (10 : Nat) ^ 20 = 100000000000000000000 := by decide
    have hl := decLen 19 n.natAbs (by rw [e20]; omega)
    rw [he, cond_false, l01Num_l N _ 20 N n ByteArray.empty h0 (by rw [e20]; omega) (by omega) (by show 0 + 20 ≤ 1000; omega) h1 h2, F45_j0, ByteArray.append_empty]
    by_cases hn : n < 0
    · rw [decide_eq_true hn, cond_true]
      have hs : (⟨(Lib.decDigits n.natAbs).toArray⟩ : ByteArray).size = (Lib.decDigits n.natAbs).length := by simp [ByteArray.size]
      rw [gd_true (by rw [hs]; show 1 + _ ≤ _; omega), ba_append, Lib.itoa, if_pos hn]
      simp
    · rw [decide_eq_false hn, cond_false, Lib.itoa, if_neg hn, show n.natAbs = n.toNat by omega]
theorem number_v {N : Nat} {n : Int} (h1 : -9223372036854775808 ≤ n) (h2 : n ≤ 9223372036854775807) : F42 N n = some ⟨(Lib.itoa n).toArray⟩ := by
  unfold F42 F64
  rw [gd_true ⟨h1, h2⟩, andO_of]

theorem itoaSize {n : Int} (h1 : -9223372036854775808 ≤ n) (h2 : n ≤ 9223372036854775807) : (⟨(Lib.itoa n).toArray⟩ : ByteArray).size ≤ 21 := by
  have := itoaLen h1 h2
  simpa [ByteArray.size] using this
end Go.Proofs.YtgpddckjpokclaaDoor.Vc
