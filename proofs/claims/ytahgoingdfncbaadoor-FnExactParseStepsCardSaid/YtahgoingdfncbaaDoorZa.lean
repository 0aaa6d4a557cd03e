/- Plain lemmas on what the functions compute, and the law. -/
import Derived.Test.YtahgoingdfncbaaDoorYa
import Derived.Laws.BitsLemmas
import Derived.Lib.Split
import Derived.Lib.ItoaNum
import Derived.Lib.AtoiAll
namespace Go.Proofs.YtahgoingdfncbaaDoor.Vc
open Go Go.RowKit
set_option linter.unusedVariables false
set_option linter.unusedSimpArgs false
theorem andO_of {α β : Type} (a : α) (k : α → Option β) : andO (some a) k = k a := rfl
theorem w64 {x : Int} (h1 : -9223372036854775808 ≤ x) (h2 : x ≤ 9223372036854775807) : IntKind.i64.wrap x = x := by
 rw [IntKind.wrap_i64]; omega
theorem w8 {x : Int} (h1 : 0 ≤ x) (h2 : x ≤ 255) : IntKind.u8.wrap x = x := by
 rw [IntKind.wrap_u8]; omega
theorem inR {i k : Nat} (h : i < k) : InR (i : Int) k := by simp only [InR]; omega
theorem getD_at {α : Type} {xs : List α} {i : Nat} {d : α} (h : i < xs.length) : xs.getD i d = xs[i] := by simp [List.getD, h]
theorem lim_str : lim .str = 5864062014805 := by decide
theorem drop_eq_iff {α : Type} {a b : List α} {i : Nat} (hi : i < a.length) (hi' : i < b.length) : a.drop i = b.drop i ↔ a[i] = b[i] ∧ a.drop (i + 1) = b.drop (i + 1) := by
 rw [List.drop_eq_getElem_cons hi, List.drop_eq_getElem_cons hi', List.cons.injEq]
theorem bne_len {a b : Nat} : (((a : Nat) : Int) != ((b : Nat) : Int)) = decide (a ≠ b) := by
 by_cases h : a = b
 ·subst h; simp
 ·have : (a : Int) ≠ (b : Int) := by omega
  simp [h, this]
theorem dlt {x : Int} (h : 0 ≤ x) : decide (x < 0) = false := by
 have : ¬ x < 0 := by omega
 simp [this]
end Go.Proofs.YtahgoingdfncbaaDoor.Vc
namespace Go.Proofs.YtahgoingdfncbaaDoor.Vc
open Go Go.RowKit
set_option linter.unusedVariables false
set_option linter.unusedSimpArgs false
end Go.Proofs.YtahgoingdfncbaaDoor.Vc
namespace Go.Proofs.YtahgoingdfncbaaDoor.Vc
open Go Go.RowKit
set_option linter.unusedVariables false
set_option linter.unusedSimpArgs false
theorem l01In_v (N : Nat) (x a b : Int) : F15 N x a b = some (decide (a ≤ x ∧ x ≤ b)) := by
 unfold F15
 by_cases h : a ≤ x <;> simp [h]
def Num (x : Int) : Prop := -1000000 ≤ x ∧ x ≤ 1000000
instance (x : Int) : Decidable (Num x) := inferInstanceAs (Decidable (-1000000 ≤ x ∧ x ≤ 1000000))
theorem l01Number_v (N : Nat) (x : Int) : F17 N x = some (decide (Num x)) := by
 unfold F17
 rw [l01In_v, andO_of]
 rfl
end Go.Proofs.YtahgoingdfncbaaDoor.Vc
namespace Go.Proofs.YtahgoingdfncbaaDoor.Vc
open Go Go.RowKit
set_option linter.unusedVariables false
set_option linter.unusedSimpArgs false
abbrev Sp := Int × Int
theorem eqStep_v (N : Nat) (a b : Sp) : F14 N a b = some (decide (a = b)) := by
 unfold F14
 obtain ⟨a1, a2⟩ := a
 obtain ⟨b1, b2⟩ := b
 by_cases h1 : a1 = b1
 ·subst h1
  by_cases h2 : a2 = b2
  ·simp [h2]
  ·have : (a2 != b2) = true := by simpa using h2
   simp [this, h2]
 ·have : (a1 != b1) = true := by simpa using h1
  simp [this, h1]
theorem eqStepS_l (N : Nat) (a b : List Sp) (hl : a.length = b.length) (hs : a.length < 4611686018427387904) : ∀ (d k i : Nat), i + d = a.length → d < k → F6_l0 N a b k (i : Int) = some (decide (a.drop i = b.drop i)) := by
 intro d
 induction d with
 | zero =>
  intro k i h hk
  rw [F6_l0_s _ _ _ (by omega), F6_l0_b]
  simp only [show ¬ (i : Int) < (a.length : Int) by omega, decide_false, cond_false, F6_j0]
  rw [List.drop_eq_nil_of_le (by omega), List.drop_eq_nil_of_le (by omega)]
  rfl
 | succ d ih =>
  intro k i h hk
  have hi : i < a.length := by omega
  have hi' : i < b.length := by omega
  rw [F6_l0_s _ _ _ (by omega), F6_l0_b]
  simp only [show (i : Int) < (a.length : Int) by omega, decide_true, cond_true, gd_true (inR hi), gd_true (inR hi'), Int.toNat_natCast, getD_at hi, getD_at hi', eqStep_v, andO_of]
  rw [w64 (by omega) (by omega), show ((i : Int) + 1) = ((i + 1 : Nat) : Int) by omega, ih (k - 1) (i + 1) (by omega) (by omega)]
  by_cases hx : a[i] = b[i]
  ·simp only [hx, decide_true, Bool.not_true, cond_false, drop_eq_iff hi hi', true_and]
  ·simp only [hx, decide_false, Bool.not_false, cond_true, drop_eq_iff hi hi', false_and]
theorem eqStepS_v {N : Nat} {a b : List Sp} (hs : a.length < N) (hN : a.length < 4611686018427387904) : F6 N a b = some (decide (a = b)) := by
 unfold F6
 rw [bne_len]
 by_cases hl : a.length = b.length
 ·simp only [hl, ne_eq, not_true_eq_false, decide_false, cond_false]
  have := eqStepS_l N a b hl hN a.length N 0 (by omega) hs
  simpa using this
 ·have : a ≠ b := fun e => hl (by rw [e])
  simp [hl, this]
end Go.Proofs.YtahgoingdfncbaaDoor.Vc
namespace Go.Proofs.YtahgoingdfncbaaDoor.Vc
open Go Go.RowKit
set_option linter.unusedVariables false
set_option linter.unusedSimpArgs false
theorem decLen : ∀ (d u : Nat), u < 10 ^ (d + 1) → (Lib.decDigits u).length ≤ d + 1
 | 0, u, h => by
  rw [Lib.decDigits, dif_pos (by simpa using h)]
  simp
 | d + 1, u, h => by
  rw [Lib.decDigits]
  split
  ·simp
  ·have := decLen d (u / 10) (by rw [Nat.pow_succ] at h; omega)
   simp
   omega
theorem ba_append (a b : Array UInt8) : (⟨a⟩ : ByteArray) ++ ⟨b⟩ = ⟨a ++ b⟩ := by
 apply ByteArray.ext
 simp
theorem strOneN (n : Nat) : strOfNums [(n : Int)] = ⟨#[UInt8.ofNat n]⟩ := by
 simp [strOfNums]
theorem tmod_abs (x : Int) : (Int.tmod x 10 < 0 ∧ 0 - Int.tmod x 10 = ((x.natAbs % 10 : Nat) : Int)) ∨ (¬ Int.tmod x 10 < 0 ∧ Int.tmod x 10 = ((x.natAbs % 10 : Nat) : Int)) := by
 rcases Int.natAbs_eq x with h | h
 ·rw [h]
  simp only [Int.natAbs_natCast]
  right
  have : Int.tmod ((x.natAbs : Nat) : Int) 10 = ((x.natAbs % 10 : Nat) : Int) := Int.ofNat_tmod _ 10
  omega
 ·rw [h]
  simp only [Int.natAbs_neg, Int.natAbs_natCast, Int.neg_tmod]
  have : Int.tmod ((x.natAbs : Nat) : Int) 10 = ((x.natAbs % 10 : Nat) : Int) := Int.ofNat_tmod _ 10
  omega
theorem tdiv_abs (x : Int) : (Int.tdiv x 10).natAbs = x.natAbs / 10 := by
 rw [Int.natAbs_tdiv]
 rfl
theorem l01Num_l (N : Nat) (neg : Bool) : ∀ (d k : Nat) (x : Int) (s : ByteArray), x ≠ 0 → x.natAbs < 10 ^ d → d < k → s.size + d ≤ 1000 → -9223372036854775808 ≤ x → x ≤ 9223372036854775807 →
  F16_l0 N k x s neg = F16_j0 N (⟨(Lib.decDigits x.natAbs).toArray⟩ ++ s) neg := by
 intro d
 induction d with
 | zero =>
  intro k x s h0 h1 hk hs h2 h3
  simp at h1
  omega
 | succ d ih =>
  intro k x s h0 h1 hk hs h2 h3
  have hne : (x != 0) = true := by simpa using h0
  have hm : x.natAbs % 10 < 10 := Nat.mod_lt _ (by omega)
  have hj : F16_l0 N k x s neg = F16_j1 N (F16_l0 N (k - 1)) x s neg ((x.natAbs % 10 : Nat) : Int) := by
   rw [F16_l0_s _ (by omega), F16_l0_b, hne, cond_true]
   rcases tmod_abs x with ⟨a, b⟩ | ⟨a, b⟩
   ·rw [decide_eq_true a, cond_true, b, w64 (by omega) (by omega)]
   ·rw [decide_eq_false a, cond_false, b]
  have hda := tdiv_abs x
  rw [hj, F16_j1, w64 (x := 48 + ((x.natAbs % 10 : Nat) : Int)) (by omega) (by omega), w8 (by omega) (by omega), show (48 : Int) + ((x.natAbs % 10 : Nat) : Int) = ((48 + x.natAbs % 10 : Nat) : Int) by omega, strOneN]
  have h1s : (⟨#[UInt8.ofNat (48 + x.natAbs % 10)]⟩ : ByteArray).size = 1 := rfl
  rw [gd_true (by rw [h1s]; omega), w64 (x := Int.tdiv x 10) (by omega) (by omega)]
  by_cases hu : x.natAbs < 10
  ·have hz : Int.tdiv x 10 = 0 := by omega
   rw [hz, F16_l0_s _ (by omega), F16_l0_b]
   simp only [bne_self_eq_false, cond_false]
   rw [Lib.decDigits, dif_pos hu, Nat.mod_eq_of_lt hu]
  ·rw [ih (k - 1) (Int.tdiv x 10) _ (by omega) (by rw [Nat.pow_succ] at h1; omega) (by omega) (by rw [ByteArray.size_append, h1s]; omega) (by omega) (by omega), hda]
   congr 1
   rw [Lib.decDigits.eq_1 x.natAbs, dif_neg hu]
   apply ByteArray.ext
   simp
theorem l01Num_v {N : Nat} {n : Int} (hN : 50 < N) (h1 : -9223372036854775808 ≤ n) (h2 : n ≤ 9223372036854775807) : F16 N n = some ⟨(Lib.itoa n).toArray⟩ := by
 unfold F16
 by_cases h0 : n = 0
 ·subst h0
  simp only [beq_self_eq_true, cond_true]
  have : Lib.itoa 0 = [48] := by
   unfold Lib.itoa
   rw [if_neg (by omega), Lib.decDigits, dif_pos (by decide)]
   rfl
  rw [this]
 ·have he : (n == 0) = false := by simpa using h0
  have e20 : (10 : Nat) ^ 20 = 100000000000000000000 := by decide
  have hl := decLen 19 n.natAbs (by rw [e20]; omega)
  rw [he, cond_false, l01Num_l N _ 20 N n ByteArray.empty h0 (by rw [e20]; omega) (by omega) (by show 0 + 20 ≤ 1000; omega) h1 h2, F16_j0, ByteArray.append_empty]
  by_cases hn : n < 0
  ·rw [decide_eq_true hn, cond_true]
   have hs : (⟨(Lib.decDigits n.natAbs).toArray⟩ : ByteArray).size = (Lib.decDigits n.natAbs).length := by simp [ByteArray.size]
   rw [gd_true (by rw [hs]; show 1 + _ ≤ _; omega), ba_append, Lib.itoa, if_pos hn]
   simp
  ·rw [decide_eq_false hn, cond_false, Lib.itoa, if_neg hn, show n.natAbs = n.toNat by omega]
end Go.Proofs.YtahgoingdfncbaaDoor.Vc
namespace Go.Proofs.YtahgoingdfncbaaDoor.Vc
open Go Go.RowKit Go.Lib
set_option linter.unusedVariables false
set_option linter.unusedSimpArgs false
def parts (c : UInt8) : List UInt8 → List (List UInt8)
 | [] => [[]]
 | b :: l => if b = c then [] :: parts c l else match parts c l with
  | [] => [[b]]
  | p :: ps => (b :: p) :: ps
theorem parts_cons (c b : UInt8) (l : List UInt8) : ∃ p ps, parts c l = p :: ps ∧ (b ≠ c → parts c (b :: l) = (b :: p) :: ps) := by
 have hne : ∀ l, parts c l ≠ [] := by
  intro l
  cases l with
  | nil => simp [parts]
  | cons b l =>
   simp only [parts]
   split
   ·simp
   ·split <;> simp
 cases h : parts c l with
 | nil => exact absurd h (hne l)
 | cons p ps => exact ⟨p, ps, rfl, fun hb => by simp only [parts, if_neg hb, h]⟩
theorem index_parts (c : UInt8) : ∀ l : List UInt8, (index l [c] = -1 ∧ parts c l = [l] ∧ c ∉ l) ∨ ∃ i : Nat, index l [c] = i ∧ i < l.length ∧ parts c l = l.take i :: parts c (l.drop (i + 1)) ∧ c ∉ l.take i := by
 intro l
 induction l with
 | nil => left; simp [index, parts]
 | cons b l ih =>
  by_cases hb : b = c
  ·subst hb
   right
   exact ⟨0, by simp [index, List.isPrefixOf], by simp, by simp [parts], by simp⟩
  ·obtain ⟨p, ps, e1, e2⟩ := parts_cons c b l
   have e2 := e2 hb
   have hp : ([c].isPrefixOf (b :: l)) = false := by
    simp [List.isPrefixOf]; exact fun e => hb e.symm
   rcases ih with ⟨h1, h2, h3⟩ | ⟨i, h1, h2, h3, h4⟩
   ·left
    refine ⟨by simp [index, hp, h1], ?_, ?_⟩
    ·rw [e2]; rw [e1] at h2; injection h2 with h2 h2'; rw [h2, h2']
    ·intro hm
     rcases List.mem_cons.1 hm with e | e
     ·exact hb e.symm
     ·exact h3 e
   ·right
    have hne : (index l [c] == -1) = false := by rw [h1, beq_eq_false_iff_ne]; omega
    refine ⟨i + 1, by simp [index, hp, hne, h1], by simp; omega, ?_, ?_⟩
    ·rw [e2]; rw [e1] at h3; injection h3 with h3 h3'; rw [h3, h3']; simp
    ·intro hm
     rw [List.take_succ_cons] at hm
     rcases List.mem_cons.1 hm with e | e
     ·exact hb e.symm
     ·exact h4 e
theorem splitK_parts (c : UInt8) : ∀ (k : Nat) (l : List UInt8), count l [c] = k → splitK [c] 0 k l = parts c l := by
 intro k
 induction k with
 | zero =>
  intro l h
  rcases index_parts c l with ⟨h1, h2, _⟩ | ⟨i, h1, _⟩
  ·rw [h2]; rfl
  ·rw [count_hit (by simp) h1] at h; omega
 | succ k ih =>
  intro l h
  rcases index_parts c l with ⟨h1, _⟩ | ⟨i, h1, h2, h3, _⟩
  ·rw [count_miss h1] at h; omega
  ·have hc := count_hit (s := l) (sub := [c]) (by simp) h1
   have hne : ¬ (index l [c] == -1) = true := by rw [h1, beq_iff_eq]; omega
   simp only [splitK]
   rw [if_neg hne, h1, h3]
   simp only [Int.toNat_natCast, Nat.add_zero, List.length_singleton] at hc ⊢
   rw [ih _ (by omega)]
theorem cut_parts (c : UInt8) (l : List UInt8) : (parts c l = [l] ∧ cut l [c] = (l, [], false)) ∨ ∃ a b, parts c l = a :: parts c b ∧ cut l [c] = (a, b, true) ∧ a.length + b.length + 1 = l.length := by
 rcases index_parts c l with ⟨h1, h2, _⟩ | ⟨i, h1, h2, h3, _⟩
 ·left
  refine ⟨h2, ?_⟩
  unfold cut
  rw [if_neg (by rw [h1]; decide)]
 ·right
  refine ⟨l.take i, l.drop (i + 1), h3, ?_, by rw [List.length_take, List.length_drop]; omega⟩
  unfold cut
  rw [if_pos (by rw [h1]; omega), h1]
  simp
theorem parts_one (c : UInt8) (l : List UInt8) : (parts c l).length = 1 ↔ c ∉ l := by
 rcases index_parts c l with ⟨h1, h2, h3⟩ | ⟨i, h1, h2, h3, h4⟩
 ·rw [h2]; simp [h3]
 ·rw [h3]
  obtain ⟨p, ps, e1, _⟩ := parts_cons c c (l.drop (i + 1))
  rw [e1]
  simp only [List.length_cons]
  refine ⟨fun h => by omega, fun h => ?_⟩
  exfalso
  rcases index_parts c l with ⟨_, _, h5⟩ | ⟨j, g1, g2, g3, g4⟩
  ·rw [‹parts c l = [l]›] at h3; simp [e1] at h3
  ·apply h
   -- the byte stands at i
   have hcnt : count l [c] ≠ 0 := by rw [count_hit (by simp) h1]; omega
   by_cases hm : c ∈ l
   ·exact hm
   ·exfalso
    have : ∀ l : List UInt8, c ∉ l → parts c l = [l] := by
     intro l
     induction l with
     | nil => intro _; rfl
     | cons b l ih =>
      intro hm
      have hb : b ≠ c := fun e => hm (by rw [e]; exact List.mem_cons_self)
      simp only [parts, if_neg hb, ih (fun e => hm (List.mem_cons_of_mem _ e))]
    rw [this l hm, e1] at h3
    simp at h3
def lens : List (List UInt8) → Nat
 | [] => 0
 | p :: ps => p.length + lens ps
theorem parts_len (c : UInt8) : ∀ l : List UInt8, lens (parts c l) + (parts c l).length = l.length + 1 := by
 intro l
 induction l with
 | nil => rfl
 | cons b l ih =>
  by_cases hb : b = c
  ·simp only [parts, if_pos hb, lens, List.length_cons, List.length_nil]; omega
  ·obtain ⟨p, ps, e1, e2⟩ := parts_cons c b l
   rw [e2 hb]
   rw [e1] at ih
   simp only [lens, List.length_cons] at ih ⊢
   omega
def NumB (v : Int) : Prop := -1000000 ≤ v ∧ v ≤ 1000000
instance (v : Int) : Decidable (NumB v) := inferInstanceAs (Decidable (_ ∧ _))
def rdO (l : List UInt8) : Option Int := match atoiAll l with
 | .ok v => if itoa v = l ∧ NumB v then some v else none
 | _ => none
theorem dig_of {d : Nat} (h : d < 10) : (UInt8.ofNat (48 + d)).toNat = 48 + d := by
 simp [UInt8.toNat_ofNat']; omega
theorem parse_snoc : ∀ (l : List UInt8) (acc u : Nat) (c : UInt8), parseUint10 acc l = .ok u → 48 ≤ c.toNat → c.toNat ≤ 57 → u < 1000000000000000 → parseUint10 acc (l ++ [c]) = .ok (u * 10 + (c.toNat - 48))
 | [], acc, u, c, h, h1, h2, h3 => by
  simp only [parseUint10] at h
  injection h with h
  subst h
  simp only [List.nil_append, parseUint10]
  rw [if_pos ⟨h1, h2⟩, if_neg (by omega), if_neg (by omega)]
 | b :: l, acc, u, c, h, h1, h2, h3 => by
  simp only [List.cons_append, parseUint10] at h ⊢
  split at h
  ·rename_i hb
   split at h
   ·cases h
   ·rename_i h4
    split at h
    ·cases h
    ·rename_i h5
     rw [if_pos hb, if_neg h4, if_neg h5]
     exact parse_snoc l _ u c h h1 h2 h3
  ·cases h
theorem parse_dec : ∀ (u : Nat), u < 1000000000000000 → parseUint10 0 (decDigits u) = .ok u := by
 intro u
 induction u using Nat.strongRecOn with
 | _ u ih =>
  intro hu
  rw [decDigits]
  by_cases h : u < 10
  ·rw [dif_pos h]
   simp only [parseUint10]
   rw [dig_of h, if_pos ⟨by omega, by omega⟩, if_neg (by omega), if_neg (by omega)]
   congr 1; omega
  ·rw [dif_neg h]
   have := parse_snoc (decDigits (u / 10)) 0 (u / 10) (UInt8.ofNat (48 + u % 10)) (ih (u / 10) (by omega) (by omega)) (by rw [dig_of (by omega)]; omega) (by rw [dig_of (by omega)]; omega) (by omega)
   rw [this, dig_of (by omega)]
   congr 1; omega
theorem dec_ne (u : Nat) : decDigits u ≠ [] := by
 rw [decDigits]
 split <;> simp
theorem dec_digit : ∀ (u : Nat), ∀ c ∈ decDigits u, 48 ≤ c.toNat ∧ c.toNat ≤ 57 := by
 intro u
 induction u using Nat.strongRecOn with
 | _ u ih =>
  intro c hc
  rw [decDigits] at hc
  by_cases h : u < 10
  ·rw [dif_pos h] at hc
   rw [List.mem_singleton.1 hc, dig_of h]; omega
  ·rw [dif_neg h] at hc
   rcases List.mem_append.1 hc with hc | hc
   ·exact ih (u / 10) (by omega) c hc
   ·rw [List.mem_singleton.1 hc, dig_of (by omega)]; omega
theorem dec_len : ∀ (d u : Nat), u < 10 ^ (d + 1) → (decDigits u).length ≤ d + 1 := by
 intro d
 induction d with
 | zero => intro u h; rw [decDigits, dif_pos (by omega)]; simp
 | succ d ih =>
  intro u h
  rw [decDigits]
  by_cases h0 : u < 10
  ·rw [dif_pos h0]; simp
  ·rw [dif_neg h0, List.length_append, List.length_singleton]
   have := ih (u / 10) (by rw [Nat.pow_succ] at h; omega)
   omega
theorem atoi_itoa {v : Int} (h : NumB v) : atoiAll (itoa v) = .ok v := by
 unfold NumB at h
 have mag : ∀ u : Nat, u ≤ 1000000 → parseMag (decDigits u) = .ok u := fun u hu => by
  unfold parseMag
  rw [if_neg (dec_ne u), parse_dec u (by omega)]
 by_cases hv : v < 0
 ·unfold itoa
  rw [if_pos hv]
  simp only [atoiAll]
  have e45 : (45 : UInt8).toNat = 45 := rfl
  rw [e45, if_pos (by omega), mag v.natAbs (by omega)]
  simp only
  rw [if_neg (by omega), if_neg (by omega)]
  simp
  omega
 ·unfold itoa
  rw [if_neg hv]
  have hm := mag v.toNat (by omega)
  cases hd : decDigits v.toNat with
  | nil => exact absurd hd (dec_ne _)
  | cons c r =>
   have hc := dec_digit v.toNat c (by rw [hd]; exact List.mem_cons_self)
   simp only [atoiAll]
   rw [if_neg (by omega), ← hd, hm]
   simp only
   rw [if_neg (by omega), if_neg (by omega), if_neg (by omega)]
   congr 1; omega
theorem rdO_iff (l : List UInt8) (v : Int) : rdO l = some v ↔ itoa v = l ∧ NumB v := by
 unfold rdO
 constructor
 ·intro h
  split at h
  ·split at h
   ·rename_i h2
    injection h with h
    subst h
    exact h2
   ·cases h
  ·cases h
 ·rintro ⟨rfl, h2⟩
  rw [atoi_itoa h2]
  simp [h2]
theorem rdO_nil : rdO [] = none := by
 unfold rdO; rfl
theorem rdO_len {l : List UInt8} {v : Int} (h : rdO l = some v) : l.length ≤ 8 ∧ (0 ≤ v → l.length ≤ 7) ∧ ∀ c ∈ l, c = 45 ∨ (48 ≤ c.toNat ∧ c.toNat ≤ 57) := by
 obtain ⟨rfl, h1, h2⟩ := (rdO_iff l v).1 h
 unfold itoa
 by_cases hv : v < 0
 ·rw [if_pos hv]
  have := dec_len 6 v.natAbs (by omega)
  refine ⟨by simp; omega, fun h => absurd hv (by omega), fun c hc => ?_⟩
  rcases List.mem_cons.1 hc with e | e
  ·exact .inl e
  ·exact .inr (dec_digit _ c e)
 ·rw [if_neg hv]
  have := dec_len 6 v.toNat (by omega)
  exact ⟨by omega, fun _ => by omega, fun c hc => .inr (dec_digit _ c hc)⟩
def stp1 (w : List UInt8) : Option (Int × Int) := match parts 64 w with
 | [a, b] => match rdO a, rdO b with
  | some x, some y => if 0 ≤ x ∧ 0 ≤ y then some (x, y) else none
  | _, _ => none
 | _ => none
def stps : List (List UInt8) → Option (List (Int × Int))
 | [] => some []
 | w :: ws => match stp1 w with
  | none => none
  | some x => (stps ws).map fun l => x :: l
theorem stp1_some {w : List UInt8} {x : Int × Int} (h : stp1 w = some x) : w.length ≤ 15 := by
 unfold stp1 at h
 have hl := parts_len 64 w
 split at h
 ·rename_i a b e
  split at h
  ·rename_i x y e1 e2
   split at h
   ·rename_i hp
    have h1 := (rdO_len e1).2.1 hp.1
    have h2 := (rdO_len e2).2.1 hp.2
    rw [e] at hl
    simp only [lens, List.length_cons, List.length_nil] at hl
    omega
   ·cases h
  ·cases h
 ·cases h
theorem stps_some : ∀ {ws : List (List UInt8)} {out : List (Int × Int)}, stps ws = some out → out.length = ws.length ∧ lens ws ≤ 15 * ws.length
 | [], out, h => by
  simp only [stps, Option.some.injEq] at h
  subst h
  exact ⟨rfl, by simp [lens]⟩
 | w :: ws, out, h => by
  simp only [stps] at h
  split at h
  ·cases h
  ·rename_i x e
   obtain ⟨l, h1, rfl⟩ := Option.map_eq_some_iff.1 h
   have := stps_some h1
   have := stp1_some e
   simp only [List.length_cons, lens]
   omega
theorem few_short {l : List UInt8} {out : List (Int × Int)} (h : stps (parts 32 l) = some out) (h2 : out.length ≤ 20) : l.length ≤ 400 := by
 have h1 := stps_some h
 have h3 := parts_len 32 l
 omega
end Go.Proofs.YtahgoingdfncbaaDoor.Vc
namespace Go.Proofs.YtahgoingdfncbaaDoor.Vc
open Go Go.RowKit Go.Lib
set_option linter.unusedVariables false
set_option linter.unusedSimpArgs false
theorem midD {α : Type} (u : List α) (x d : α) (r : List α) : (u ++ x :: r).getD u.length d = x := by simp [List.getD]
theorem midS {α : Type} (u : List α) (x y : α) (r : List α) : (u ++ x :: r).set u.length y = u ++ y :: r := by simp
def stepsM : Nat → Int → List (Int × Int)
 | 0, _ => []
 | n + 1, m => (m, m + 1) :: stepsM n (m + 1 + 1)
theorem markStepX_l (N : Nat) : ∀ (l u : List (Int × Int)) (k : Nat) (m : Int), l.length < k → u.length + l.length ≤ 1048576 → 0 ≤ m → m + 2 * l.length ≤ 4000000000000 →
  F7_l0 N k (u ++ l) m (u.length : Int) = some (u ++ stepsM l.length m, m + 2 * (l.length : Int)) := by
 intro l
 induction l with
 | nil =>
  intro u k m hk hu h0 h1
  rw [F7_l0_s _ (by omega), F7_l0_b]
  simp only [List.append_nil, Int.lt_irrefl, decide_false, cond_false, F7_j0, List.length_nil, stepsM]
  simp
 | cons x l ih =>
  intro u k m hk hu h0 h1
  simp only [List.length_cons] at hk hu h1
  have hi : u.length < (u ++ x :: l).length := by simp
  have hi2 : ∀ y : Int × Int, u.length < (u ++ y :: l).length := fun y => by simp
  rw [F7_l0_s _ (by omega), F7_l0_b]
  simp only [show (u.length : Int) < ((u ++ x :: l).length : Int) by simp; omega, decide_true, cond_true, List.length_set, gd_true (inR hi), Int.toNat_natCast, gd_true hi, midD, midS]
  rw [w64 (x := m + 1) (by omega) (by omega), w64 (x := m + 1 + 1) (by omega) (by omega), w64 (x := (u.length : Int) + 1) (by omega) (by omega)]
  try simp only [gd_true (inR (hi2 _)), gd_true (hi2 _)]
  have := ih (u ++ [(m, m + 1)]) (k - 1) (m + 1 + 1) (by omega) (by simp; omega) (by omega) (by omega)
  simp only [List.append_assoc, List.singleton_append, List.length_append, List.length_singleton] at this
  rw [show ((u.length : Int) + 1) = ((u.length + 1 : Nat) : Int) by omega]
  rw [this, List.length_cons, stepsM]
  congr 2
  omega
theorem markStepX_v {N : Nat} {l : List (Int × Int)} (hs : l.length ≤ 1048576) (hN : 1048576 < N) : F7 N l 1 = some (stepsM l.length 1, 1 + 2 * (l.length : Int)) := by
 unfold F7
 have := markStepX_l N l [] N 1 (by omega) (by simp; omega) (by omega) (by omega)
 simpa using this
theorem heldStepX_l (N : Nat) : ∀ (n : Nat) (u : List (Int × Int)) (k : Nat) (m : Int), n < k → u.length + n ≤ 1048576 → 0 ≤ m → m + 2 * n ≤ 4000000000000 →
  F8_l0 N (u ++ stepsM n m) k m (u.length : Int) = some (m + 2 * (n : Int)) := by
 intro n
 induction n with
 | zero =>
  intro u k m hk hu h0 h1
  rw [F8_l0_s _ _ (by omega), F8_l0_b]
  simp only [stepsM, List.append_nil, Int.lt_irrefl, decide_false, cond_false, F8_j0]
  simp
 | succ n ih =>
  intro u k m hk hu h0 h1
  rw [stepsM]
  have hi2 : ∀ (y : Int × Int) (r : List (Int × Int)), u.length < (u ++ y :: r).length := fun y r => by simp
  have hlt : ∀ (y : Int × Int) (r : List (Int × Int)), (u.length : Int) < ((u ++ y :: r).length : Int) := fun y r => by have := hi2 y r; omega
  rw [F8_l0_s _ _ (by omega), F8_l0_b]
  simp only [hlt, decide_true, cond_true, gd_true (inR (hi2 _ _)), Int.toNat_natCast, midD, bne_self_eq_false, cond_false]
  rw [w64 (x := m + 1) (by omega) (by omega), w64 (x := m + 1 + 1) (by omega) (by omega), w64 (x := (u.length : Int) + 1) (by omega) (by omega)]
  simp only [bne_self_eq_false, cond_false]
  have := ih (u ++ [(m, m + 1)]) (k - 1) (m + 1 + 1) (by omega) (by simp; omega) (by omega) (by omega)
  simp only [List.append_assoc, List.singleton_append, List.length_append, List.length_singleton] at this
  rw [show ((u.length : Int) + 1) = ((u.length + 1 : Nat) : Int) by omega]
  rw [this]
  congr 1
  omega
theorem heldStepX_v {N n : Nat} (hs : n ≤ 1048576) (hN : 1048576 < N) : F8 N (stepsM n 1) 1 = some (1 + 2 * (n : Int)) := by
 unfold F8
 have := heldStepX_l N n [] N 1 (by omega) (by simp; omega) (by omega) (by omega)
 simpa using this
abbrev tl (s : ByteArray) : List UInt8 := s.data.toList
theorem tl_len (s : ByteArray) : (tl s).length = s.size := by
 show s.data.toList.length = s.data.size
 rw [Array.length_toList]
theorem tl_inj {a b : ByteArray} (h : tl a = tl b) : a = b := ByteArray.ext (Array.toList_inj.1 h)
theorem tls_inj : ∀ {a b : List ByteArray}, a.map tl = b.map tl → a = b
 | [], [], _ => rfl
 | [], _ :: _, h => by simp at h
 | _ :: _, [], h => by simp at h
 | x :: a, y :: b, h => by
  simp only [List.map_cons, List.cons.injEq] at h
  rw [tl_inj h.1, tls_inj h.2]
theorem tl_drop {s : ByteArray} {i : Nat} (h : i < s.size) : (tl s).drop i = s.data.getD i 0 :: (tl s).drop (i + 1) := by
 have h' : i < (tl s).length := by rw [tl_len]; exact h
 rw [List.drop_eq_getElem_cons h']
 congr 1
 have h2 : i < s.data.size := h
 simp [Array.getD, h2]
 intro h3
 omega
theorem tl_extract (s : ByteArray) (a b : Nat) : tl (s.extract a b) = ((tl s).drop a).take (b - a) := by
 simp [tl, ByteArray.data_extract]
theorem tl_empty (s : ByteArray) : (s.toList == ByteArray.empty.toList) = decide (tl s = []) := by
 rw [ByteArray.toList_eq]
 have : ByteArray.empty.toList = [] := by rw [ByteArray.toList_eq]; rfl
 rw [this, Bool.eq_iff_iff]
 simp [tl]
def glue (x : List UInt8) : List (List UInt8) → List (List UInt8)
 | [] => [x]
 | p :: ps => (x ++ p) :: ps
theorem glue_nil {c : UInt8} {l : List UInt8} : glue [] (parts c l) = parts c l := by
 obtain ⟨p, ps, e, _⟩ := parts_cons c c l
 rw [e]; rfl
theorem take_next {l : List UInt8} {at_ i : Nat} {b : UInt8} {r : List UInt8} (h : at_ ≤ i) (e : l.drop i = b :: r) : (l.drop at_).take (i + 1 - at_) = (l.drop at_).take (i - at_) ++ [b] := by
 have h2 : (l.drop at_).drop (i - at_) = b :: r := by rw [List.drop_drop, show at_ + (i - at_) = i by omega]; exact e
 have hl : i - at_ < (l.drop at_).length := by
  rcases Nat.lt_or_ge (i - at_) (l.drop at_).length with h3 | h3
  ·exact h3
  ·rw [List.drop_eq_nil_of_le h3] at h2; cases h2
 rw [show i + 1 - at_ = (i - at_) + 1 by omega, List.take_succ_eq_append_getElem hl]
 congr 1
 rw [List.drop_eq_getElem_cons hl] at h2
 simp only [List.cons.injEq] at h2
 rw [h2.1]
theorem sParts_l {N : Nat} (s : ByteArray) (c : UInt8) (hs : s.size ≤ 1048576) : ∀ (d k i a : Nat) (out : List ByteArray), i + d = s.size → d + 1 < k → a ≤ i → out.length ≤ i →
  ∃ q, F9_l0 N s (c.toNat : Int) k out (a : Int) (i : Int) = some q ∧ q.map tl = out.map tl ++ glue (((tl s).drop a).take (i - a)) (parts c ((tl s).drop i)) := by
 have hlim := lim_str
 intro d
 induction d with
 | zero =>
  intro k i a out h hk ha ho
  obtain rfl : i = s.size := by omega
  rw [F9_l0_s _ _ _ (by omega), F9_l0_b, decide_eq_true (show (s.size : Int) ≤ (s.size : Int) by omega), cond_true, beq_self_eq_true, cond_true, gd_true (by omega)]
  simp only [Int.toNat_natCast]
  rw [gd_true (by rw [List.length_singleton]; omega), F9_j1, w64 (by omega) (by omega), F9_l0_s _ _ _ (by omega), F9_l0_b, decide_eq_false (by omega), cond_false]
  refine ⟨_, rfl, ?_⟩
  rw [show (tl s).drop s.size = [] from List.drop_eq_nil_of_le (Nat.le_of_eq (tl_len s))]
  simp only [List.map_append, List.map_cons, List.map_nil, parts, glue, List.append_nil, tl_extract]
 | succ d ih =>
  intro k i a out h hk ha ho
  have hi : i < s.size := by omega
  have hd := tl_drop hi
  obtain ⟨b, hb⟩ : ∃ b, s.data.getD i 0 = b := ⟨_, rfl⟩
  rw [hb] at hd
  rw [F9_l0_s _ _ _ (by omega), F9_l0_b, decide_eq_true (show (i : Int) ≤ (s.size : Int) by omega), cond_true, show ((i : Int) == (s.size : Int)) = false by rw [beq_eq_false_iff_ne]; omega, cond_false, gd_true (inR hi)]
  simp only [Int.toNat_natCast, hb]
  rw [hd]
  by_cases hc : b = c
  ·subst hc
   rw [beq_self_eq_true, cond_true, gd_true (by omega), gd_true (by rw [List.length_singleton]; omega), F9_j1, w64 (by omega) (by omega), show (i : Int) + 1 = ((i + 1 : Nat) : Int) by omega]
   obtain ⟨q, h1, h2⟩ := ih (k - 1) (i + 1) (i + 1) (out ++ [s.extract a i]) (by omega) (by omega) (by omega) (by simp; omega)
   refine ⟨q, h1, ?_⟩
   rw [h2, Nat.sub_self, List.take_zero, glue_nil]
   simp only [parts, if_true, glue, List.map_append, List.map_cons, List.map_nil, tl_extract, List.append_nil, List.append_assoc, List.singleton_append]
  ·have hn : ((b.toNat : Int) == (c.toNat : Int)) = false := by
    rw [beq_eq_false_iff_ne]
    intro e
    exact hc (UInt8.toNat_inj.1 (by omega))
   rw [hn, cond_false, F9_j1, w64 (by omega) (by omega), show (i : Int) + 1 = ((i + 1 : Nat) : Int) by omega]
   obtain ⟨q, h1, h2⟩ := ih (k - 1) (i + 1) a out (by omega) (by omega) (by omega) (by omega)
   refine ⟨q, h1, ?_⟩
   obtain ⟨p, ps, e1, e2⟩ := parts_cons c b ((tl s).drop (i + 1))
   rw [h2, e2 hc, e1, take_next ha hd]
   simp [glue]
theorem sParts_v {N : Nat} (hN : 1048578 < N) {s : ByteArray} (c : UInt8) (hs : s.size ≤ 1048576) : ∃ q, F9 N s (c.toNat : Int) = some q ∧ q.map tl = parts c (tl s) := by
 unfold F9
 obtain ⟨q, h1, h2⟩ := sParts_l (N := N) s c hs s.size N 0 0 [] (by omega) (by omega) (by omega) (by simp)
 refine ⟨q, h1, ?_⟩
 rw [h2, List.drop_zero, Nat.sub_self, List.take_zero, glue_nil]
 rfl
theorem iSplit_v {N : Nat} {s : ByteArray} (c : UInt8) (hs : s.size ≤ 1048576) : ∃ q, F11 N s (⟨#[c]⟩ : ByteArray) = some q ∧ q.map tl = parts c (tl s) := by
 unfold F11
 rw [gd_true ⟨by omega, by show 1 ≤ 1; omega⟩]
 refine ⟨_, rfl, ?_⟩
 show List.map (fun x : ByteArray => x.data.toList) _ = _
 rw [splitB_data]
 exact splitK_parts c _ _ rfl
theorem rdV_eq (s : ByteArray) : rdV s = match rdO (tl s) with | some v => (v, true) | none => (0, false) := by
 unfold rdV rdO
 cases h : atoiAll s.data.toList with
 | ok v =>
  simp only [h]
  by_cases h1 : (⟨(Lib.itoa v).toArray⟩ : ByteArray) = s ∧ NumV v
  ·have h2 : itoa v = tl s ∧ NumB v := ⟨by rw [← h1.1], h1.2⟩
   rw [if_pos h1, if_pos h2]
  ·have h2 : ¬ (itoa v = tl s ∧ NumB v) := fun e => h1 ⟨tl_inj (by rw [← e.1]), e.2⟩
   rw [if_neg h1, if_neg h2]
 | _ => simp only [h]
theorem readN_v {N : Nat} {s : ByteArray} (hs : s.size ≤ 1048576) : F13 N s = some (match rdO (tl s) with | some v => (v, true) | none => (0, false)) := by
 unfold F13
 rw [gd_true (by omega), rdV_eq]
theorem sFin_v {N : Nat} (hN : 50 < N) (s : ByteArray) {x : Int} (h1 : -9223372036854775808 ≤ x) (h2 : x ≤ 9223372036854775807) : F10_j0 N s x = some (x, decide (itoa x = tl s ∧ Num x)) := by
 unfold F10_j0
 rw [l01Num_v hN h1 h2, andO_of, l01Number_v, andO_of]
 have e : ((⟨(Lib.itoa x).toArray⟩ : ByteArray).toList == s.toList) = decide (itoa x = tl s) := by
  rw [ByteArray.toList_eq, ByteArray.toList_eq, Bool.eq_iff_iff]
  simp [tl]
 rw [e]
 by_cases a : itoa x = tl s
 ·rw [decide_eq_true a, cond_true]
  congr 2
  simp [a]
 ·rw [decide_eq_false a, cond_false]
  congr 2
  simp [a]
theorem sLoopA {N : Nat} (hN : 50 < N) (s ds : ByteArray) (hd : ds.size ≤ 7) : ∀ (d k i x : Nat), i + d = ds.size → d < k → x < 10 ^ i →
  ∃ y b, F10_l0 N s ds k (x : Int) (i : Int) = some (y, b) ∧ (b = true → itoa y = tl s ∧ Num y) := by
 intro d
 induction d with
 | zero =>
  intro k i x h hk hx
  have h7 : 10 ^ i ≤ 10 ^ 7 := Nat.pow_le_pow_right (by omega) (by omega)
  have e7 : (10 : Nat) ^ 7 = 10000000 := by decide
  rw [F10_l0_s _ _ _ (by omega), F10_l0_b, decide_eq_false (show ¬ (i : Int) < (ds.size : Int) by omega), cond_false, F10_j1]
  cases decide ((ds.size : Int) < (s.size : Int)) with
  | true => rw [cond_true, w64 (by omega) (by omega), sFin_v hN s (by omega) (by omega)]; exact ⟨_, _, rfl, fun h => of_decide_eq_true h⟩
  | false => rw [cond_false, sFin_v hN s (by omega) (by omega)]; exact ⟨_, _, rfl, fun h => of_decide_eq_true h⟩
 | succ d ih =>
  intro k i x h hk hx
  have h7 : 10 ^ i ≤ 10 ^ 7 := Nat.pow_le_pow_right (by omega) (by omega)
  have e7 : (10 : Nat) ^ 7 = 10000000 := by decide
  have hi : i < ds.size := by omega
  rw [F10_l0_s _ _ _ (by omega), F10_l0_b, decide_eq_true (show (i : Int) < (ds.size : Int) by omega), cond_true]
  rw [gd_true (inR hi), gd_true (inR hi), gd_true (inR hi)]
  obtain ⟨c, hc⟩ : ∃ c : Nat, (ds.data.getD (i : Int).toNat 0).toNat = c := ⟨_, rfl⟩
  rw [hc]
  have hc256 : c < 256 := by rw [← hc]; exact UInt8.toNat_lt _
  by_cases h1 : (c : Int) < 48
  ·rw [decide_eq_true h1, cond_true]; exact ⟨_, _, rfl, fun h => by cases h⟩
  ·by_cases h2 : (c : Int) > 57
   ·rw [decide_eq_false h1, cond_false, decide_eq_true h2, cond_true]; exact ⟨_, _, rfl, fun h => by cases h⟩
   ·rw [decide_eq_false h1, cond_false, decide_eq_false h2, cond_false, w64 (x := 10 * (x : Int)) (by omega) (by omega), w64 (x := (c : Int)) (by omega) (by omega), w64 (x := 10 * (x : Int) + c) (by omega) (by omega), w64 (x := 10 * (x : Int) + c - 48) (by omega) (by omega), w64 (x := (i : Int) + 1) (by omega) (by omega), show (i : Int) + 1 = ((i + 1 : Nat) : Int) by omega, show 10 * (x : Int) + c - 48 = ((10 * x + c - 48 : Nat) : Int) by omega]
    exact ih (k - 1) (i + 1) _ (by omega) (by omega) (by rw [Nat.pow_succ]; omega)
theorem sLoopB {N : Nat} (s ds : ByteArray) (hd : ds.size ≤ 7) : ∀ (d k i x u : Nat), i + d = ds.size → d < k → x < 10 ^ i → parseUint10 x ((tl ds).drop i) = .ok u →
  F10_l0 N s ds k (x : Int) (i : Int) = F10_j1 N s ds (u : Int) := by
 intro d
 induction d with
 | zero =>
  intro k i x u h hk hx hu
  rw [List.drop_eq_nil_of_le (by rw [tl_len]; omega)] at hu
  simp only [parseUint10] at hu
  injection hu with hu
  subst hu
  rw [F10_l0_s _ _ _ (by omega), F10_l0_b, decide_eq_false (show ¬ (i : Int) < (ds.size : Int) by omega), cond_false]
 | succ d ih =>
  intro k i x u h hk hx hu
  have h7 : 10 ^ i ≤ 10 ^ 7 := Nat.pow_le_pow_right (by omega) (by omega)
  have e7 : (10 : Nat) ^ 7 = 10000000 := by decide
  have hi : i < ds.size := by omega
  rw [F10_l0_s _ _ _ (by omega), F10_l0_b, decide_eq_true (show (i : Int) < (ds.size : Int) by omega), cond_true]
  rw [gd_true (inR hi), gd_true (inR hi), gd_true (inR hi)]
  rw [tl_drop hi] at hu
  simp only [parseUint10] at hu
  obtain ⟨c, hc⟩ : ∃ c : Nat, (ds.data.getD (i : Int).toNat 0).toNat = c := ⟨_, rfl⟩
  have hc' : (ds.data.getD i 0).toNat = c := hc
  rw [hc' ] at hu
  rw [hc]
  split at hu
  ·rename_i hb
   rw [if_neg (by omega), if_neg (by omega)] at hu
   rw [decide_eq_false (show ¬ (c : Int) < 48 by omega), cond_false, decide_eq_false (show ¬ (c : Int) > 57 by omega), cond_false, w64 (x := 10 * (x : Int)) (by omega) (by omega), w64 (x := (c : Int)) (by omega) (by omega), w64 (x := 10 * (x : Int) + c) (by omega) (by omega), w64 (x := 10 * (x : Int) + c - 48) (by omega) (by omega), w64 (x := (i : Int) + 1) (by omega) (by omega), show (i : Int) + 1 = ((i + 1 : Nat) : Int) by omega, show 10 * (x : Int) + c - 48 = ((x * 10 + (c - 48) : Nat) : Int) by omega]
   exact ih (k - 1) (i + 1) _ u (by omega) (by omega) (by rw [Nat.pow_succ]; omega) hu
  ·cases hu
theorem sRead_some {N : Nat} (hN : 50 < N) {s : ByteArray} {v : Int} (h : rdO (tl s) = some v) : F10 N s = some (v, true) := by
 obtain ⟨h1, h2⟩ := (rdO_iff _ _).1 h
 have h2' := h2
 unfold NumB at h2'
 have hfin : F10_j0 N s v = some (v, true) := by
  rw [sFin_v hN s (by omega) (by omega)]
  congr 2
  exact decide_eq_true ⟨h1, h2⟩
 have hsz := tl_len s
 have e7 : (10 : Nat) ^ (6 + 1) = 10000000 := by decide
 unfold F10
 by_cases hv : v < 0
 ·have hds : tl s = 45 :: decDigits v.natAbs := by rw [← h1, itoa, if_pos hv]
  have hl := dec_len 6 v.natAbs (by rw [e7]; omega)
  have hl1 : 0 < (decDigits v.natAbs).length := List.length_pos_iff.2 (dec_ne _)
  rw [hds, List.length_cons] at hsz
  have h0 : 0 < s.size := by omega
  have hb : s.data.getD 0 0 = 45 := by
   have := tl_drop h0
   rw [List.drop_zero, hds] at this
   exact (List.cons.inj this).1.symm
  have e1 : tl (s.extract (1 : Int).toNat s.size) = decDigits v.natAbs := by
   rw [tl_extract, show (1 : Int).toNat = 1 from rfl, hds, List.drop_succ_cons, List.drop_zero, List.take_of_length_le (by omega)]
  have e2 : (s.extract (1 : Int).toNat s.size).size = (decDigits v.natAbs).length := by rw [← tl_len, e1]
  have hj : F10_j2 N s (s.extract (1 : Int).toNat s.size) = some (v, true) := by
   generalize s.extract (1 : Int).toNat s.size = ds at e1 e2
   rw [F10_j2, l01In_v, decide_eq_true (show (1 : Int) ≤ (ds.size : Int) ∧ (ds.size : Int) ≤ 7 by omega), andO_of, Bool.not_true, cond_false]
   have hL := sLoopB (N := N) s ds (by omega) ds.size N 0 0 v.natAbs (by omega) (by omega) (by decide) (by rw [List.drop_zero, e1]; exact parse_dec _ (by omega))
   rw [show (((0 : Nat)) : Int) = 0 from rfl] at hL
   rw [hL, F10_j1, decide_eq_true (show (ds.size : Int) < (s.size : Int) by omega), cond_true, w64 (by omega) (by omega), show (0 : Int) - (v.natAbs : Int) = v by omega]
   exact hfin
  rw [decide_eq_true (show (s.size : Int) > 0 by omega), cond_true, gd_true (show InR (0 : Int) s.size from inR (i := 0) h0), show (0 : Int).toNat = 0 from rfl, hb, show (((45 : UInt8).toNat : Int) == 45) = true from rfl, cond_true, gd_true (by omega), hj]
 ·have hds : tl s = decDigits v.toNat := by rw [← h1, itoa, if_neg hv]
  have hl := dec_len 6 v.toNat (by rw [e7]; omega)
  have hl1 : 0 < (decDigits v.toNat).length := List.length_pos_iff.2 (dec_ne _)
  rw [hds] at hsz
  have h0 : 0 < s.size := by omega
  have hb : ((((s.data.getD 0 0).toNat : Nat) : Int) == 45) = false := by
   have := tl_drop h0
   rw [List.drop_zero, hds] at this
   have hm := dec_digit v.toNat (s.data.getD 0 0) (by rw [this]; exact List.mem_cons_self)
   rw [beq_eq_false_iff_ne]
   omega
  have hj : F10_j2 N s s = some (v, true) := by
   rw [F10_j2, l01In_v, decide_eq_true (show (1 : Int) ≤ (s.size : Int) ∧ (s.size : Int) ≤ 7 by omega), andO_of, Bool.not_true, cond_false]
   have hL := sLoopB (N := N) s s (by omega) s.size N 0 0 v.toNat (by omega) (by omega) (by decide) (by rw [List.drop_zero, hds]; exact parse_dec _ (by omega))
   rw [show (((0 : Nat)) : Int) = 0 from rfl] at hL
   rw [hL, F10_j1, decide_eq_false (show ¬ (s.size : Int) < (s.size : Int) by omega), cond_false, show (v.toNat : Int) = v by omega]
   exact hfin
  rw [decide_eq_true (show (s.size : Int) > 0 by omega), cond_true, gd_true (show InR (0 : Int) s.size from inR (i := 0) h0), show (0 : Int).toNat = 0 from rfl, hb, cond_false, hj]
theorem sRead_any {N : Nat} (hN : 50 < N) (s : ByteArray) (hs : s.size ≤ 1048576) : ∃ y b, F10 N s = some (y, b) ∧ (b = true → itoa y = tl s ∧ Num y) := by
 have hj : ∀ ds : ByteArray, ∃ y b, F10_j2 N s ds = some (y, b) ∧ (b = true → itoa y = tl s ∧ Num y) := by
  intro ds
  rw [F10_j2, l01In_v, andO_of]
  by_cases h : (1 : Int) ≤ (ds.size : Int) ∧ (ds.size : Int) ≤ 7
  ·rw [decide_eq_true h, Bool.not_true, cond_false]
   exact sLoopA hN s ds (by omega) ds.size N 0 0 (by omega) (by omega) (by decide)
  ·rw [decide_eq_false h, Bool.not_false, cond_true]
   exact ⟨_, _, rfl, fun h => by cases h⟩
 unfold F10
 by_cases h0 : (s.size : Int) > 0
 ·rw [decide_eq_true h0, cond_true, gd_true (show InR (0 : Int) s.size from inR (i := 0) (by omega))]
  cases (((s.data.getD (0 : Int).toNat 0).toNat : Int) == 45) with
  | true => rw [cond_true, gd_true (by omega)]; exact hj _
  | false => rw [cond_false]; exact hj _
 ·rw [decide_eq_false h0, cond_false]
  exact hj _
theorem sRead_v {N : Nat} (hN : 50 < N) (s : ByteArray) (hs : s.size ≤ 1048576) : ∃ y, F10 N s = some (y, (rdO (tl s)).isSome) ∧ ∀ v, rdO (tl s) = some v → y = v := by
 cases h : rdO (tl s) with
 | some v => exact ⟨v, sRead_some hN h, fun w hw => by injection hw⟩
 | none =>
  obtain ⟨y, b, h1, h2⟩ := sRead_any hN s hs
  refine ⟨y, ?_, fun w hw => by cases hw⟩
  rw [h1]
  cases b with
  | false => rfl
  | true =>
   have := (rdO_iff (tl s) y).2 (h2 rfl)
   rw [h] at this
   cases this
theorem lens_mem : ∀ {ws : List (List UInt8)} {w : List UInt8}, w ∈ ws → w.length ≤ lens ws
 | x :: ws, w, h => by
  simp only [lens]
  rcases List.mem_cons.1 h with rfl | h
  ·omega
  ·have := lens_mem h; omega
theorem rdO_at {l : List UInt8} (h : (64 : UInt8) ∈ l) : rdO l = none := by
 cases hr : rdO l with
 | none => rfl
 | some v =>
  rcases (rdO_len hr).2.2 64 h with e | e
  ·exact absurd e (by decide)
  ·exact absurd e.2 (by decide)
theorem stp1_none {w : List UInt8} (h : parts 64 w = [w]) : stp1 w = none := by
 unfold stp1; rw [h]
theorem stp1_two {w a b : List UInt8} (h : parts 64 w = a :: parts 64 b) : stp1 w = match rdO a, rdO b with
  | some x, some y => if 0 ≤ x ∧ 0 ≤ y then some (x, y) else none
  | _, _ => none := by
 unfold stp1
 rw [h]
 rcases index_parts 64 b with ⟨_, h2, _⟩ | ⟨i, h1, h2, h3, _⟩
 ·rw [h2] <;> rfl
 ·have hm : (64 : UInt8) ∈ b := by
   by_cases hm : (64 : UInt8) ∈ b
   ·exact hm
   ·have := (parts_one 64 b).2 hm
    rw [h3] at this
    obtain ⟨p, ps, e1, _⟩ := parts_cons 64 64 (b.drop (i + 1))
    rw [e1] at this
    simp at this
  rw [rdO_at hm, h3]
  obtain ⟨p, ps, e1, _⟩ := parts_cons 64 64 (b.drop (i + 1))
  rw [e1]
  cases rdO a <;> rfl
theorem iSteps_l {N : Nat} (q : List ByteArray) (hq : q.length ≤ 1048577) (hw : ∀ w ∈ q, w.size ≤ 1048576) : ∀ (d k i : Nat) (out : List (Int × Int)), i + d = q.length → d < k → out.length ≤ i →
  F5_l0 N q k out (q.length : Int) (i : Int) = match stps ((q.drop i).map tl) with
   | none => some ([], false)
   | some l => F5_j0 N (out ++ l) := by
 have hlim : lim (.pair (.int .i64) (.int .i64)) = 2932031007402 := by decide
 intro d
 induction d with
 | zero =>
  intro k i out h hk ho
  rw [F5_l0_s _ _ (by omega), F5_l0_b, decide_eq_false (show ¬ (i : Int) < (q.length : Int) by omega), cond_false, List.drop_eq_nil_of_le (by omega)]
  simp only [List.map_nil, stps, List.append_nil]
 | succ d ih =>
  intro k i out h hk ho
  have hi : i < q.length := by omega
  have hsz := hw _ (List.getElem_mem hi)
  rw [F5_l0_s _ _ (by omega), F5_l0_b, decide_eq_true (show (i : Int) < (q.length : Int) by omega), cond_true, gd_true (inR hi)]
  simp only [Int.toNat_natCast, gd_true hi, getD_at hi]
  rw [List.drop_eq_getElem_cons hi, List.map_cons]
  obtain ⟨w, hwe⟩ : ∃ w, q[i] = w := ⟨_, rfl⟩
  rw [hwe] at hsz ⊢
  have hc : F12 N w (⟨#[64]⟩ : ByteArray) = some (⟨(cut (tl w) [64]).1.toArray⟩, ⟨(cut (tl w) [64]).2.1.toArray⟩, (cut (tl w) [64]).2.2) := by
   unfold F12
   rw [gd_true (by omega)]
  rw [hc, andO_of]
  have hnil : rdO ([] : List UInt8) = none := rdO_nil
  have hsl := tl_len w
  have htl : ∀ l : List UInt8, tl (⟨l.toArray⟩ : ByteArray) = l := fun l => rfl
  have hbs : ∀ l : List UInt8, (⟨l.toArray⟩ : ByteArray).size = l.length := fun l => by rw [← tl_len]
  rcases cut_parts 64 (tl w) with ⟨h1, h2⟩ | ⟨a, b, h1, h2, h3⟩
  ·rw [h2]
   dsimp only
   rw [readN_v (by rw [hbs]; omega), andO_of, readN_v (by rw [hbs]; simp), andO_of, htl, htl, hnil]
   simp only [stps, stp1_none h1]
   cases rdO (tl w) <;> rfl
  ·rw [h2]
   dsimp only
   rw [readN_v (by rw [hbs]; omega), andO_of, readN_v (by rw [hbs]; omega), andO_of, htl, htl]
   simp only [stps, stp1_two h1]
   cases ha : rdO a with
   | none => rfl
   | some x =>
    cases hb : rdO b with
    | none => rfl
    | some y =>
     simp only [Bool.not_true, cond_false]
     by_cases hx : x < 0
     ·rw [decide_eq_true hx, cond_true, if_neg (by omega)]
     ·rw [decide_eq_false hx, cond_false]
      by_cases hy : y < 0
      ·rw [decide_eq_true hy, cond_true, if_neg (by omega)]
      ·rw [decide_eq_false hy, cond_false, if_pos (by omega), gd_true (show out.length + [(x, y)].length ≤ lim (.pair (.int .i64) (.int .i64)) by rw [List.length_singleton]; omega), w64 (by omega) (by omega), show (i : Int) + 1 = ((i + 1 : Nat) : Int) by omega, ih (k - 1) (i + 1) _ (by omega) (by omega) (by rw [List.length_append, List.length_singleton]; omega)]
       cases stps ((q.drop (i + 1)).map tl) with
       | none => rfl
       | some l => simp
theorem sSteps_l {N : Nat} (hN : 1048578 < N) (q : List ByteArray) (hq : q.length ≤ 1048577) (hw : ∀ w ∈ q, w.size ≤ 1048576) : ∀ (d k i : Nat) (out : List (Int × Int)), i + d = q.length → d < k → out.length ≤ i →
  F4_l0 N q k out (i : Int) = match stps ((q.drop i).map tl) with
   | none => some ([], false)
   | some l => F4_j0 N (out ++ l) := by
 have hlim : lim (.pair (.int .i64) (.int .i64)) = 2932031007402 := by decide
 intro d
 induction d with
 | zero =>
  intro k i out h hk ho
  rw [F4_l0_s _ _ (by omega), F4_l0_b, decide_eq_false (show ¬ (i : Int) < (q.length : Int) by omega), cond_false, List.drop_eq_nil_of_le (by omega)]
  simp only [List.map_nil, stps, List.append_nil]
 | succ d ih =>
  intro k i out h hk ho
  have hi : i < q.length := by omega
  have hsz := hw _ (List.getElem_mem hi)
  rw [F4_l0_s _ _ (by omega), F4_l0_b, decide_eq_true (show (i : Int) < (q.length : Int) by omega), cond_true, gd_true (inR hi)]
  simp only [Int.toNat_natCast, gd_true hi, getD_at hi]
  rw [List.drop_eq_getElem_cons hi, List.map_cons]
  obtain ⟨w, hwe⟩ : ∃ w, q[i] = w := ⟨_, rfl⟩
  rw [hwe] at hsz ⊢
  obtain ⟨r, e1, e2⟩ := sParts_v hN (s := w) 64 hsz
  rw [show ((64 : UInt8).toNat : Int) = 64 from rfl] at e1
  rw [e1, andO_of]
  have hpl := parts_len 64 (tl w)
  have hsl := tl_len w
  by_cases h2 : r.length = 2
  ·obtain ⟨a, b, rfl⟩ : ∃ a b, r = [a, b] := by
    match r, h2 with
    | [a, b], _ => exact ⟨a, b, rfl⟩
   simp only [List.map_cons, List.map_nil] at e2
   rw [← e2] at hpl
   simp only [lens, List.length_cons, List.length_nil] at hpl
   have la := tl_len a
   have lb := tl_len b
   obtain ⟨x, r1, r2⟩ := sRead_v (N := N) (by omega) a (by omega)
   obtain ⟨y, r3, r4⟩ := sRead_v (N := N) (by omega) b (by omega)
   rw [show ((([a, b] : List ByteArray).length : Int) != 2) = false from rfl, cond_false, gd_true (show InR (0 : Int) ([a, b] : List ByteArray).length from inR (i := 0) (by simp)), gd_true (show (0 : Int).toNat < ([a, b] : List ByteArray).length by simp), show ([a, b] : List ByteArray).getD (0 : Int).toNat (Ty.dflt .str) = a from rfl, r1, andO_of, gd_true (show InR (1 : Int) ([a, b] : List ByteArray).length from inR (i := 1) (by simp)), gd_true (show (1 : Int).toNat < ([a, b] : List ByteArray).length by simp), show ([a, b] : List ByteArray).getD (1 : Int).toNat (Ty.dflt .str) = b from rfl, r3, andO_of]
   have hst : stp1 (tl w) = match rdO (tl a), rdO (tl b) with
     | some x, some y => if 0 ≤ x ∧ 0 ≤ y then some (x, y) else none
     | _, _ => none := by
    unfold stp1
    rw [← e2] <;> rfl
   simp only [stps, hst]
   cases ha : rdO (tl a) with
   | none => rfl
   | some x' =>
    obtain rfl := r2 x' ha
    cases hb : rdO (tl b) with
    | none => rfl
    | some y' =>
     obtain rfl := r4 y' hb
     simp only [Option.isSome_some, Bool.not_true, cond_false]
     by_cases hx : x < 0
     ·rw [decide_eq_true hx, cond_true, if_neg (by omega)]
     ·rw [decide_eq_false hx, cond_false]
      by_cases hy : y < 0
      ·rw [decide_eq_true hy, cond_true, if_neg (by omega)]
      ·rw [decide_eq_false hy, cond_false, if_pos (by omega), gd_true (show out.length + [(x, y)].length ≤ lim (.pair (.int .i64) (.int .i64)) by rw [List.length_singleton]; omega), w64 (by omega) (by omega), show (i : Int) + 1 = ((i + 1 : Nat) : Int) by omega, ih (k - 1) (i + 1) _ (by omega) (by omega) (by rw [List.length_append, List.length_singleton]; omega)]
       cases stps ((q.drop (i + 1)).map tl) with
       | none => rfl
       | some l => simp
  ·have hne : ((r.length : Int) != 2) = true := by rw [bne_iff_ne]; omega
   rw [hne, cond_true]
   have hlen : (parts 64 (tl w)).length ≠ 2 := by rw [← e2, List.length_map]; exact h2
   have hst : stp1 (tl w) = none := by
    unfold stp1
    split
    ·rename_i a b e
     rw [e] at hlen
     simp at hlen
    ·rfl
   simp only [stps, hst]
theorem parseSteps_v {N : Nat} (hN : 2000000 < N) {s : ByteArray} (hs : s.size ≤ 1048576) : ∃ r : List (Int × Int) × Bool, F5 N s = some r ∧ F4 N s = some r ∧ r.1.length ≤ 20 := by
 unfold F5 F4
 rw [tl_empty]
 by_cases h0 : tl s = []
 ·rw [decide_eq_true h0]
  exact ⟨([], true), rfl, rfl, by simp⟩
 ·rw [decide_eq_false h0, cond_false, cond_false]
  obtain ⟨q, e1, e2⟩ := iSplit_v (N := N) (s := s) 32 hs
  rw [e1, andO_of]
  have hpl := parts_len 32 (tl s)
  have hsl := tl_len s
  have hql : q.length = (parts 32 (tl s)).length := by rw [← e2, List.length_map]
  have hw : ∀ w ∈ q, w.size ≤ 1048576 := fun w hw => by
   have hm : tl w ∈ parts 32 (tl s) := by rw [← e2]; exact List.mem_map.2 ⟨w, hw, rfl⟩
   have := lens_mem hm
   have := tl_len w
   have hpos : 0 < (parts 32 (tl s)).length := by
    obtain ⟨p, ps, e, _⟩ := parts_cons 32 32 (tl s)
    rw [e]; simp
   omega
  have hi := iSteps_l (N := N) q (by omega) hw q.length N 0 [] (by omega) (by omega) (by simp)
  rw [show (((0 : Nat)) : Int) = 0 from rfl, List.drop_zero, e2] at hi
  rw [hi]
  have fin : ∀ l : List (Int × Int), F5_j0 N l = some (if 20 < l.length then ([], false) else (l, true)) ∧ F4_j0 N l = some (if 20 < l.length then ([], false) else (l, true)) := fun l => by
   unfold F5_j0 F4_j0
   by_cases h : 20 < l.length
   ·rw [decide_eq_true (show (l.length : Int) > 20 by omega), if_pos h]; exact ⟨rfl, rfl⟩
   ·rw [decide_eq_false (show ¬ (l.length : Int) > 20 by omega), if_neg h]; exact ⟨rfl, rfl⟩
  by_cases h4 : (s.size : Int) > 400
  ·rw [decide_eq_true h4, cond_true]
   refine ⟨([], false), ?_, rfl, by simp⟩
   cases hst : stps (parts 32 (tl s)) with
   | none => rfl
   | some l =>
    simp only [List.nil_append, (fin l).1]
    by_cases h20 : 20 < l.length
    ·rw [if_pos h20]
    ·have := few_short hst (by omega)
     omega
  ·rw [decide_eq_false h4, cond_false]
   obtain ⟨q2, e3, e4⟩ := sParts_v (N := N) (by omega) (s := s) 32 hs
   rw [show ((32 : UInt8).toNat : Int) = 32 from rfl] at e3
   have : q2 = q := tls_inj (e4.trans e2.symm)
   subst this
   have hsp := sSteps_l (N := N) (by omega) q2 (by omega) hw q2.length N 0 [] (by omega) (by omega) (by simp)
   rw [show (((0 : Nat)) : Int) = 0 from rfl, List.drop_zero, e2] at hsp
   rw [e3, andO_of, hsp]
   cases hst : stps (parts 32 (tl s)) with
   | none => exact ⟨([], false), rfl, rfl, by simp⟩
   | some l =>
    simp only [List.nil_append, (fin l).1, (fin l).2]
    refine ⟨_, rfl, rfl, ?_⟩
    by_cases h20 : 20 < l.length
    ·rw [if_pos h20]; simp
    ·rw [if_neg h20]; simp only; omega
theorem lawFnExactParseSteps (s : ByteArray) (h : Ty.str.wf s) : ∃ N, F3 N s = some true := by
 refine ⟨3000000, ?_⟩
 unfold F3
 by_cases hs : (s.size : Int) > 1048576
 ·rw [decide_eq_true hs, cond_true]
 ·rw [decide_eq_false hs, cond_false]
  obtain ⟨q, h1, h2, h3⟩ := parseSteps_v (N := 3000000) (by omega) (s := s) (by omega)
  have m3 := markStepX_v (N := 3000000) (l := q.1) (by omega) (by omega)
  have m4 := heldStepX_v (N := 3000000) (n := q.1.length) (by omega) (by omega)
  simp only [h1, h2, andO_of, eqStepS_v (N := 3000000) (a := q.1) (b := q.1) (by omega) (by omega), decide_true, beq_self_eq_true, Bool.not_true, cond_false, m3, m4, dlt (show 0 ≤ 1 + 2 * (q.1.length : Int) by omega), bne_self_eq_false]
end Go.Proofs.YtahgoingdfncbaaDoor.Vc
