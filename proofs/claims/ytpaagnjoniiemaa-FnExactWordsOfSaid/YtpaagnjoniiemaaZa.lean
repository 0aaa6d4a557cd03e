/- Plain lemmas on what the functions compute, and the law. -/
import Derived.Test.YtpaagnjoniiemaaYa
import Derived.Laws.BitsLemmas
import Derived.Lib.MapLaws
namespace Go.Proofs.Ytpaagnjoniiemaa.Vc
open Go Go.RowKit
set_option linter.unusedVariables false
set_option linter.unusedSimpArgs false
theorem andO_of {α β : Type} (a : α) (k : α → Option β) : andO (some a) k = k a := rfl
theorem w64 {x : Int} (h1 : -9223372036854775808 ≤ x) (h2 : x ≤ 9223372036854775807) : IntKind.i64.wrap x = x := by
 rw [IntKind.wrap_i64]; omega
theorem inR {i k : Nat} (h : i < k) : InR (i : Int) k := by simp only [InR]; omega
theorem lim_str : lim .str = 5864062014805 := by decide
theorem dlt {x : Int} (h : 0 ≤ x) : decide (x < 0) = false := by
 have : ¬ x < 0 := by omega
 simp [this]
end Go.Proofs.Ytpaagnjoniiemaa.Vc
namespace Go.Proofs.Ytpaagnjoniiemaa.Vc
open Go Go.RowKit Go.Lib
set_option linter.unusedVariables false
set_option linter.unusedSimpArgs false
theorem strOne (n : Int) : (strOfNums [n]).size = 1 := by
 simp [strOfNums, ByteArray.size]
theorem markText_l (N : Nat) : ∀ (d k : Nat) (x : Int) (s : ByteArray), 0 ≤ x → x < 10 ^ d → d < k → s.size + d ≤ 1000 → ∃ r, F11_l0 N k x s = some r := by
 intro d
 induction d with
 | zero =>
  intro k x s h0 h1 hk hs
  have hx : x = 0 := by simp at h1; omega
  subst hx
  rw [F11_l0_s _ (by omega), F11_l0_b]
  simp only [show ¬ (0 : Int) > 0 by omega, decide_false, cond_false, F11_j0]
  rw [gd_true (by show 1 + s.size ≤ _; omega)]
  exact ⟨_, rfl⟩
 | succ d ih =>
  intro k x s h0 h1 hk hs
  rw [F11_l0_s _ (by omega), F11_l0_b]
  by_cases hx : x > 0
  ·simp only [hx, decide_true, cond_true]
   have e1 : Int.tdiv x 10 = x / 10 := Int.tdiv_eq_ediv_of_nonneg h0
   have h10 : x / 10 < 10 ^ d := by
    rw [Int.pow_succ] at h1
    omega
   by_cases hw : x / 10 ≤ 9223372036854775807
   ·rw [gd_true (by rw [strOne]; omega), e1, w64 (by omega) hw]
    exact ih (k - 1) _ _ (by omega) h10 (by omega) (by rw [ByteArray.size_append, strOne]; omega)
   ·rw [gd_true (by rw [strOne]; omega), e1]
    have hb : 0 ≤ IntKind.i64.wrap (x / 10) ∨ IntKind.i64.wrap (x / 10) < 0 := by omega
    by_cases hp : 0 < IntKind.i64.wrap (x / 10)
    ·have : IntKind.i64.wrap (x / 10) ≤ x / 10 := by rw [IntKind.wrap_i64] at hp ⊢; omega
     exact ih (k - 1) _ _ (by omega) (by omega) (by omega) (by rw [ByteArray.size_append, strOne]; omega)
    ·rw [F11_l0_s _ (by omega), F11_l0_b]
     simp only [show ¬ IntKind.i64.wrap (x / 10) > 0 from hp, decide_false, cond_false, F11_j0]
     rw [gd_true (by rw [ByteArray.size_append, strOne]; show 1 + (1 + s.size) ≤ _; omega)]
     exact ⟨_, rfl⟩
  ·simp only [hx, decide_false, cond_false, F11_j0]
   rw [gd_true (by show 1 + s.size ≤ _; omega)]
   exact ⟨_, rfl⟩
theorem markText_v {N : Nat} (hN : 50 < N) (x : Int) (hx : x < 4611686018427387904) : ∃ r, F11 N x = some r := by
 unfold F11
 by_cases h : x ≤ 0
 ·rw [decide_eq_true h, cond_true]
  exact ⟨_, rfl⟩
 ·rw [decide_eq_false h, cond_false]
  have e : (10 : Int) ^ 30 = 1000000000000000000000000000000 := by decide
  exact markText_l N 30 N x ByteArray.empty (by omega) (by rw [e]; omega) (by omega) (by show 0 + 30 ≤ 1000; omega)
def mkText (N : Nat) (k : Int) : ByteArray := (F11 N k).getD ByteArray.empty
theorem mkText_v {N : Nat} (hN : 50 < N) (k : Int) (hk : k < 4611686018427387904) : F11 N k = some (mkText N k) := by
 obtain ⟨r, hr⟩ := markText_v hN k hk
 unfold mkText
 rw [hr]
 rfl
def upS (N : Nat) : Int → Nat → List ByteArray
 | _, 0 => []
 | m, n + 1 => mkText N m :: upS N (m + 1) n
theorem midD {α : Type} (u : List α) (x d : α) (r : List α) : (u ++ x :: r).getD u.length d = x := by simp [List.getD]
theorem midS {α : Type} (u : List α) (x y : α) (r : List α) : (u ++ x :: r).set u.length y = u ++ y :: r := by simp
theorem midL {α : Type} (u : List α) (x : α) (r : List α) : u.length < (u ++ x :: r).length := by simp
theorem eqStringS_r {N : Nat} {A : List ByteArray} (ha : A.length ≤ 1048576) (hN : 1048576 < N) : F6 N A A = some true := by
 have key : ∀ (d k i : Nat), i + d = A.length → d < k → F6_l0 N A A k (i : Int) = some true := by
  intro d
  induction d with
  | zero =>
   intro k i h hk
   rw [F6_l0_s _ _ _ (by omega), F6_l0_b, decide_eq_false (show ¬ (i : Int) < (A.length : Int) by omega), cond_false]
   rfl
  | succ d ih =>
   intro k i h hk
   have hi : i < A.length := by omega
   rw [F6_l0_s _ _ _ (by omega), F6_l0_b, decide_eq_true (show (i : Int) < (A.length : Int) by omega), cond_true, gd_true (inR hi), gd_true (inR hi)]
   rw [beq_self_eq_true, Bool.not_true, cond_false, w64 (by omega) (by omega), show (i : Int) + 1 = ((i + 1 : Nat) : Int) by omega]
   exact ih (k - 1) (i + 1) (by omega) (by omega)
 unfold F6
 rw [bne_self_eq_false, cond_false]
 exact key A.length N 0 (by omega) (by omega)
theorem markStringS_l {N : Nat} (hN : 1048576 < N) : ∀ (l u : List ByteArray) (k : Nat) (m : Int), l.length < k → u.length + l.length ≤ 1048576 → 0 ≤ m → m + l.length ≤ 100000000 →
  F7_l0 N k (u ++ l) m (u.length : Int) = some (u ++ upS N m l.length, m + l.length) := by
 intro l
 induction l with
 | nil =>
  intro u k m hk hu h0 h1
  rw [F7_l0_s _ (by omega), F7_l0_b, List.append_nil, decide_eq_false (show ¬ (u.length : Int) < (u.length : Int) by omega), cond_false]
  simp [F7_j0, upS]
 | cons r l ih =>
  intro u k m hk hu h0 h1
  simp only [List.length_cons] at hk hu h1 ⊢
  have hm := midL u r l
  rw [F7_l0_s _ (by omega), F7_l0_b, decide_eq_true (show (u.length : Int) < ((u ++ r :: l).length : Int) by omega), cond_true, mkText_v (by omega) m (by omega), andO_of, gd_true (inR hm)]
  simp only [Int.toNat_natCast, gd_true hm, midS]
  rw [w64 (by omega) (by omega), w64 (by omega) (by omega)]
  have := ih (u ++ [mkText N m]) (k - 1) (m + 1) (by omega) (by simp; omega) (by omega) (by omega)
  simp only [List.append_assoc, List.singleton_append, List.length_append, List.length_singleton] at this
  rw [show ((u.length : Int) + 1) = ((u.length + 1 : Nat) : Int) by omega, this, upS]
  congr 2
  omega
theorem markStringS_v {N : Nat} (hN : 1048576 < N) {l : List ByteArray} (hl : l.length ≤ 1048576) : F7 N l 1 = some (upS N 1 l.length, 1 + (l.length : Int)) := by
 unfold F7
 have := markStringS_l hN l [] N 1 (by omega) (by simp; omega) (by omega) (by omega)
 simp only [List.nil_append, List.length_nil] at this
 exact this
theorem heldStringS_l {N : Nat} (hN : 1048576 < N) : ∀ (n : Nat) (u : List ByteArray) (k : Nat) (m : Int), n < k → u.length + n ≤ 1048576 → 0 ≤ m → m + n ≤ 100000000 →
  F8_l0 N (u ++ upS N m n) k m (u.length : Int) = some (m + n) := by
 intro n
 induction n with
 | zero =>
  intro u k m hk hu h0 h1
  rw [F8_l0_s _ _ (by omega), F8_l0_b, upS, List.append_nil, decide_eq_false (show ¬ (u.length : Int) < (u.length : Int) by omega), cond_false]
  simp [F8_j0]
 | succ n ih =>
  intro u k m hk hu h0 h1
  rw [upS]
  have hm := midL u (mkText N m) (upS N (m + 1) n)
  rw [F8_l0_s _ _ (by omega), F8_l0_b, decide_eq_true (show (u.length : Int) < ((u ++ mkText N m :: upS N (m + 1) n).length : Int) by omega), cond_true, gd_true (inR hm), mkText_v (by omega) m (by omega), andO_of]
  simp only [Int.toNat_natCast, midD]
  rw [beq_self_eq_true, Bool.not_true, cond_false, w64 (by omega) (by omega), w64 (by omega) (by omega)]
  have := ih (u ++ [mkText N m]) (k - 1) (m + 1) (by omega) (by simp; omega) (by omega) (by omega)
  simp only [List.append_assoc, List.singleton_append, List.length_append, List.length_singleton] at this
  rw [show ((u.length : Int) + 1) = ((u.length + 1 : Nat) : Int) by omega, this]
  congr 1
  omega
theorem heldStringS_v {N : Nat} (hN : 1048576 < N) {n : Nat} (hl : n ≤ 1048576) : F8 N (upS N 1 n) 1 = some (1 + (n : Int)) := by
 unfold F8
 have := heldStringS_l hN n [] N 1 (by omega) (by simp; omega) (by omega) (by omega)
 simp only [List.nil_append, List.length_nil] at this
 exact this
def byt (s : ByteArray) (i : Nat) : Nat := (s.data.getD i 0).toNat
theorem get_byt (s : ByteArray) (i : Nat) : (s.get! i).toNat = byt s i := by
 obtain ⟨⟨l⟩⟩ := s
 simp only [ByteArray.get!, byt]
 congr 1
def clsW (st : Option Nat) (pos : Nat) (acc : List (Nat × Nat)) : List (Nat × Nat) := match st with | some a => acc ++ [(a, pos)] | none => acc
theorem clsW_len (st : Option Nat) (pos : Nat) (acc : List (Nat × Nat)) : (clsW st pos acc).length ≤ acc.length + 1 := by
 cases st <;> simp [clsW]
theorem sfp_s (p : Nat → Bool) (s : ByteArray) (f pos : Nat) (st : Option Nat) (acc : List (Nat × Nat)) : spansFromP p s (f + 1) pos st acc = if pos < s.size then
  (if p (Utf8.decode s pos).1 then spansFromP p s f (pos + (Utf8.decode s pos).2) none (clsW st pos acc) else spansFromP p s f (pos + (Utf8.decode s pos).2) (some (st.getD pos)) acc) else (acc, st) := by
 cases st <;> rfl
def spnB (s : ByteArray) : Nat → Nat → Option Nat → List (Nat × Nat) → List (Nat × Nat) × Option Nat
  | 0, _, st, acc => (acc, st)
  | f + 1, pos, st, acc =>
    if pos < s.size then
      (if sepR (byt s pos) then spnB s f (pos + 1) none (clsW st pos acc)
       else spnB s f (pos + 1) (some (st.getD pos)) acc)
    else (acc, st)
theorem spnB_skip (s : ByteArray) : ∀ (w f pos : Nat) (st : Option Nat) (acc : List (Nat × Nat)), 0 < w → (∀ j, j < w → pos + j < s.size ∧ sepR (byt s (pos + j)) = false) →
  spnB s (f + w) pos st acc = spnB s f (pos + w) (some (st.getD pos)) acc := by
 intro w
 induction w with
 | zero => intro f pos st acc h; omega
 | succ w ih =>
  intro f pos st acc _ h
  have h0 := h 0 (by omega)
  rw [Nat.add_zero] at h0
  rw [show f + (w + 1) = (f + w) + 1 by omega, spnB, if_pos h0.1, h0.2, if_neg (by simp)]
  by_cases hw : w = 0
  ·subst hw; rfl
  ·rw [ih f (pos + 1) _ acc (by omega) (fun j hj => by have := h (j + 1) (by omega); rw [show pos + 1 + j = pos + (j + 1) by omega]; exact this)]
   rw [show pos + 1 + w = pos + (w + 1) by omega]
   rfl
theorem spnB_end (s : ByteArray) (f pos : Nat) (st : Option Nat) (acc : List (Nat × Nat)) (h : ¬ pos < s.size) : spnB s f pos st acc = (acc, st) := by
 cases f with
 | zero => rfl
 | succ f => rw [spnB, if_neg h]
theorem sepR_big {b : Nat} (h : 128 ≤ b) : sepR b = false := by
 simp [sepR]; omega
theorem rune_of (s : ByteArray) (pos : Nat) (h : pos < s.size) : (byt s pos < 128 ∧ Utf8.decode s pos = (byt s pos, 1)) ∨
  (128 ≤ (Utf8.decode s pos).1 ∧ 0 < (Utf8.decode s pos).2 ∧ ∀ j, j < (Utf8.decode s pos).2 → pos + j < s.size ∧ 128 ≤ byt s (pos + j)) := by
 rw [decode_at]
 simp only [get_byt]
 have hz : ∀ (q : Nat × Nat) (n : Nat), q.2 = n → (128 ≤ q.1 ∧ 0 < n ∧ ∀ j, j < n → pos + j < s.size ∧ 128 ≤ byt s (pos + j)) → (128 ≤ q.1 ∧ 0 < q.2 ∧ ∀ j, j < q.2 → pos + j < s.size ∧ 128 ≤ byt s (pos + j)) := fun q n e h => by rw [e]; exact h
 by_cases hb : byt s pos < 128
 ·left
  refine ⟨hb, ?_⟩
  unfold decodeN
  rw [if_pos hb]
 ·right
  rcases decodeN_shape (s.size - pos) (byt s pos) (byt s (pos + 1)) (byt s (pos + 2)) (byt s (pos + 3)) with e | e | e | e | e
  ·exact absurd e.1 hb
  ·obtain ⟨e1, e2, e3, e4, e⟩ := e
   rw [e]
   refine ⟨e4, by simp, fun j hj => ?_⟩
   simp only at hj
   have : j = 0 ∨ j = 1 := by omega
   rcases this with rfl | rfl
   ·exact ⟨by omega, by rw [Nat.add_zero]; omega⟩
   ·exact ⟨by omega, by omega⟩
  ·obtain ⟨e1, e2, e3, e4, e5, e6, e⟩ := e
   rw [e]
   refine ⟨by simp only; omega, by simp, fun j hj => ?_⟩
   simp only at hj
   have : j = 0 ∨ j = 1 ∨ j = 2 := by omega
   rcases this with rfl | rfl | rfl
   ·exact ⟨by omega, by rw [Nat.add_zero]; omega⟩
   ·exact ⟨by omega, by omega⟩
   ·exact ⟨by omega, by omega⟩
  ·obtain ⟨e1, e2, e3, e4, e5, e6, e7, e⟩ := e
   rw [e]
   refine ⟨by simp only; omega, by simp, fun j hj => ?_⟩
   simp only at hj
   have : j = 0 ∨ j = 1 ∨ j = 2 ∨ j = 3 := by omega
   rcases this with rfl | rfl | rfl | rfl
   ·exact ⟨by omega, by rw [Nat.add_zero]; omega⟩
   ·exact ⟨by omega, by omega⟩
   ·exact ⟨by omega, by omega⟩
   ·exact ⟨by omega, by omega⟩
  ·rw [e]
   refine ⟨by simp, by simp, fun j hj => ?_⟩
   simp only at hj
   obtain rfl : j = 0 := by omega
   exact ⟨by omega, by rw [Nat.add_zero]; omega⟩
theorem spans_bytes (s : ByteArray) : ∀ (f g pos : Nat) (st : Option Nat) (acc : List (Nat × Nat)), s.size ≤ pos + f → s.size ≤ pos + g → spansFromP sepR s f pos st acc = spnB s g pos st acc := by
 intro f
 induction f with
 | zero =>
  intro g pos st acc h1 h2
  rw [spnB_end s g pos st acc (by omega)]
  rfl
 | succ f ih =>
  intro g pos st acc h1 h2
  by_cases hp : pos < s.size
  ·obtain ⟨g, rfl⟩ : ∃ g', g = g' + 1 := ⟨g - 1, by omega⟩
   rcases rune_of s pos hp with ⟨hb, e⟩ | ⟨hb, h0, hj⟩
   ·rw [sfp_s, if_pos hp, spnB, if_pos hp, e]
    simp only
    cases sepR (byt s pos) with
    | true =>
     rw [if_pos rfl, if_pos rfl]
     exact ih g (pos + 1) none _ (by omega) (by omega)
    | false =>
     rw [if_neg (by simp), if_neg (by simp)]
     exact ih g (pos + 1) _ acc (by omega) (by omega)
   ·obtain ⟨w, hw⟩ : ∃ w, (Utf8.decode s pos).2 = w := ⟨_, rfl⟩
    rw [hw] at h0 hj
    have hlast := (hj (w - 1) (by omega)).1
    obtain ⟨g', hg⟩ : ∃ g', g + 1 = g' + w := ⟨g + 1 - w, by omega⟩
    rw [hg, spnB_skip s w g' pos st acc h0 (fun j h => ⟨(hj j h).1, sepR_big (hj j h).2⟩), sfp_s, if_pos hp, hw, sepR_big hb, if_neg (by simp)]
    exact ih g' (pos + w) _ acc (by omega) (by omega)
  ·rw [spnB_end s g pos st acc hp, spansFromP_end sepR s _ pos st acc hp]
theorem fields_bytes (s : ByteArray) : goFieldsP sepR s = (closeSpans s (spnB s s.size 0 none [])).map fun x => s.extract x.1 x.2 := by
 unfold goFieldsP spansOfP
 rw [spans_bytes s s.size s.size 0 none [] (by omega) (by omega)]
def opn (s : ByteArray) (st : Option Nat) (i : Nat) : ByteArray := match st with
 | some a => s.extract a i
 | none => ByteArray.empty
theorem ext_app (s : ByteArray) {a i : Nat} (h : a ≤ i) : s.extract a i ++ s.extract i (i + 1) = s.extract a (i + 1) := by
 apply ByteArray.ext
 rw [ByteArray.data_append, ByteArray.data_extract, ByteArray.data_extract, ByteArray.data_extract, Array.extract_append_extract]
 congr 1 <;> omega
theorem opn_next (s : ByteArray) {st : Option Nat} {i : Nat} (h : ∀ a, st = some a → a < i) : opn s st i ++ s.extract i (i + 1) = opn s (some (st.getD i)) (i + 1) := by
 cases st with
 | none => simp [opn]
 | some a => exact ext_app s (Nat.le_of_lt (h a rfl))
theorem opn_size (s : ByteArray) {st : Option Nat} {i : Nat} (hi : i ≤ s.size) : (opn s st i).size ≤ s.size := by
 cases st with
 | none => simp [opn]
 | some a => simp [opn, ByteArray.size_extract]; omega
theorem opn_empty (s : ByteArray) {st : Option Nat} {i : Nat} (hi : i ≤ s.size) (h : ∀ a, st = some a → a < i) : ((opn s st i).toList == ByteArray.empty.toList) = st.isNone := by
 cases st with
 | none => simp [opn]
 | some a =>
  have := h a rfl
  simp only [opn, Option.isNone_some, beq_eq_false_iff_ne, ne_eq]
  intro e
  have e2 := congrArg List.length e
  rw [ByteArray.toList_eq, ByteArray.toList_eq, Array.length_toList] at e2
  have e3 : (s.extract a i).size = 0 := e2
  rw [ByteArray.size_extract] at e3
  omega
theorem ext_size (s : ByteArray) {i : Nat} (hi : i < s.size) : (s.extract i (i + 1)).size = 1 := by
 rw [ByteArray.size_extract]; omega
theorem wordsS_l {N : Nat} (s : ByteArray) (hs : s.size ≤ 2000) : ∀ (d k i : Nat) (st : Option Nat) (acc : List (Nat × Nat)), i + d = s.size → d + 1 < k → acc.length ≤ i → (∀ a, st = some a → a < i) →
  F4_l0 N s k (acc.map fun x => s.extract x.1 x.2) (opn s st i) (i : Int) = some ((closeSpans s (spnB s d i st acc)).map fun x => s.extract x.1 x.2) := by
 have hlim := lim_str
 have put : ∀ (nx : List ByteArray → ByteArray → Int → Option (List ByteArray)) (i : Nat) (st : Option Nat) (acc : List (Nat × Nat)), i ≤ s.size → acc.length ≤ i → (∀ a, st = some a → a < i) →
   F4_j3 N nx (acc.map fun x => s.extract x.1 x.2) (opn s st i) (i : Int) = nx ((clsW st i acc).map fun x => s.extract x.1 x.2) ByteArray.empty ((i + 1 : Nat) : Int) := by
  intro nx i st acc hi ha hst
  rw [F4_j3, opn_empty s hi hst]
  cases st with
  | none =>
   rw [Option.isNone_none, Bool.not_true, cond_false, F4_j2, F4_j1, w64 (by omega) (by omega), show (i : Int) + 1 = ((i + 1 : Nat) : Int) by omega]
   rfl
  | some a =>
   rw [Option.isNone_some, Bool.not_false, cond_true, gd_true (by rw [List.length_map, List.length_singleton]; omega), F4_j2, F4_j1, w64 (by omega) (by omega), show (i : Int) + 1 = ((i + 1 : Nat) : Int) by omega]
   simp [opn, clsW]
 intro d
 induction d with
 | zero =>
  intro k i st acc h hk ha hst
  obtain rfl : i = s.size := by omega
  rw [F4_l0_s _ _ (by omega), F4_l0_b, decide_eq_true (show (s.size : Int) ≤ (s.size : Int) by omega), cond_true, decide_eq_false (show ¬ (s.size : Int) < (s.size : Int) by omega), cond_false, put _ _ _ _ (by omega) ha hst, F4_l0_s _ _ (by omega), F4_l0_b, decide_eq_false (show ¬ ((s.size + 1 : Nat) : Int) ≤ (s.size : Int) by omega), cond_false, F4_j0, spnB]
  cases st <;> rfl
 | succ d ih =>
  intro k i st acc h hk ha hst
  have hi : i < s.size := by omega
  rw [F4_l0_s _ _ (by omega), F4_l0_b, decide_eq_true (show (i : Int) ≤ (s.size : Int) by omega), cond_true, decide_eq_true (show (i : Int) < (s.size : Int) by omega), cond_true, gd_true (inR hi), gd_true (inR hi), w64 (x := (i : Int) + 1) (by omega) (by omega), show (i : Int) + 1 = ((i + 1 : Nat) : Int) by omega]
  simp only [Int.toNat_natCast]
  rw [spnB, if_pos hi]
  have eb : (s.data.getD i 0).toNat = byt s i := rfl
  rw [eb]
  have hput := put (F4_l0 N s (k - 1)) i st acc (by omega) ha hst
  have hsep : sepR (byt s i) = true → F4_j3 N (F4_l0 N s (k - 1)) (acc.map fun x => s.extract x.1 x.2) (opn s st i) (i : Int) = some ((closeSpans s (spnB s d (i + 1) none (clsW st i acc))).map fun x => s.extract x.1 x.2) := fun _ => by
   rw [hput]
   exact ih (k - 1) (i + 1) none _ (by omega) (by omega) (by have := clsW_len st i acc; omega) (fun a h => by cases h)
  by_cases h1 : byt s i = 32
  ·have hb : sepR (byt s i) = true := by rw [h1]; rfl
   rw [show (((byt s i : Nat) : Int) != 32) = false by rw [h1]; rfl, cond_false, hsep hb, hb, if_pos rfl]
  ·by_cases h2 : byt s i = 10
   ·have hb : sepR (byt s i) = true := by rw [h2]; rfl
    rw [show (((byt s i : Nat) : Int) != 32) = true by rw [h2]; rfl, cond_true, show (((byt s i : Nat) : Int) != 10) = false by rw [h2]; rfl, cond_false, hsep hb, hb, if_pos rfl]
   ·have hb : sepR (byt s i) = false := by simp [sepR, h1, h2]
    have n1 : (((byt s i : Nat) : Int) != 32) = true := by rw [bne_iff_ne]; omega
    have n2 : (((byt s i : Nat) : Int) != 10) = true := by rw [bne_iff_ne]; omega
    have hos := opn_size s (st := st) (Nat.le_of_lt hi)
    rw [n1, cond_true, n2, cond_true, gd_true (by omega), gd_true (by rw [ext_size s hi]; omega), F4_j1, w64 (by omega) (by omega), show (i : Int) + 1 = ((i + 1 : Nat) : Int) by omega, opn_next s hst, hb, if_neg (by simp)]
    exact ih (k - 1) (i + 1) _ acc (by omega) (by omega) (by omega) (fun a h => by
     simp only [Option.some.injEq] at h
     subst h
     cases st with
     | none => simp
     | some b => have := hst b rfl; simp; omega)
theorem spnB_len (s : ByteArray) : ∀ (f pos : Nat) (st : Option Nat) (acc : List (Nat × Nat)), (spnB s f pos st acc).1.length ≤ acc.length + f
 | 0, pos, st, acc => by simp [spnB]
 | f + 1, pos, st, acc => by
  rw [spnB]
  split
  ·split
   ·have := spnB_len s f (pos + 1) none (clsW st pos acc)
    have h2 := clsW_len st pos acc
    omega
   ·have := spnB_len s f (pos + 1) (some (st.getD pos)) acc
    omega
  ·simp
theorem words_v {N : Nat} (hN : 1048576 < N) {s : ByteArray} (hs : s.size ≤ 1048576) : ∃ q : List ByteArray, F5 N s = some q ∧ F4 N s = some q ∧ q.length ≤ 10000 := by
 unfold F5 F4
 rw [gd_true (show s.size ≤ 4294967296 by omega)]
 by_cases h : s.size > 2000
 ·rw [if_pos h, decide_eq_true (show (s.size : Int) > 2000 by omega)]
  exact ⟨[], rfl, rfl, by simp⟩
 ·rw [if_neg h, decide_eq_false (show ¬ (s.size : Int) > 2000 by omega), cond_false, fields_bytes]
  have e := wordsS_l (N := N) s (by omega) s.size N 0 none [] (by omega) (by omega) (by simp) (fun a h => by cases h)
  refine ⟨_, rfl, e, ?_⟩
  rw [List.length_map]
  have := spnB_len s s.size 0 none []
  simp only [List.length_nil] at this
  unfold closeSpans
  split
  ·rw [List.length_append, List.length_singleton]; omega
  ·omega
theorem lawFnExactWordsOf (s : ByteArray) (h : Ty.str.wf s) : ∃ N, F3 N s = some true := by
 refine ⟨3000000, ?_⟩
 unfold F3
 by_cases hs : (s.size : Int) > 1048576
 ·rw [decide_eq_true hs, cond_true]
 ·rw [decide_eq_false hs, cond_false]
  obtain ⟨q, h1, h2, h3⟩ := words_v (N := 3000000) (s := s) (by omega) (by omega)
  have m1 := markStringS_v (N := 3000000) (l := q) (by omega) (by omega)
  have m2 := heldStringS_v (N := 3000000) (n := q.length) (by omega) (by omega)
  have k1 : decide ((1 : Int) + (q.length : Int) < 0) = false := dlt (by omega)
  simp only [h1, h2, andO_of, eqStringS_r (N := 3000000) (A := q) (by omega) (by omega), Bool.not_true, cond_false, m1, m2, k1, bne_self_eq_false]
end Go.Proofs.Ytpaagnjoniiemaa.Vc
