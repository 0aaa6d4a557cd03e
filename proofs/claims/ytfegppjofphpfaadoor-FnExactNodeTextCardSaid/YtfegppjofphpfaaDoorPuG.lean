/- The texts of nodes and of plans. -/
import Derived.Test.YtfegppjofphpfaaDoorPuP
import Derived.Test.YtfegppjofphpfaaDoorPuE
namespace Go.Proofs.YtfegppjofphpfaaDoor.Vc
open Go Go.RowKit
set_option linter.unusedVariables false
set_option linter.unusedSimpArgs false

abbrev sp1 : ByteArray := ⟨#[32]⟩
theorem sp1_size : sp1.size = 1 := rfl

theorem joinV2 (a b : ByteArray) : joinV [a, b] = (a ++ sp1) ++ b := by
  have := joinV_snoc [a] b (by simp)
  rw [joinV_one] at this
  exact this
theorem joinV3 (a b c : ByteArray) : joinV [a, b, c] = (((a ++ sp1) ++ b) ++ sp1) ++ c := by
  have := joinV_snoc [a, b] c (by simp)
  rw [joinV2] at this
  exact this
theorem joinV4 (a b c d : ByteArray) : joinV [a, b, c, d] = (((((a ++ sp1) ++ b) ++ sp1) ++ c) ++ sp1) ++ d := by
  have := joinV_snoc [a, b, c] d (by simp)
  rw [joinV3] at this
  exact this

/-- The word of a number, or of a slot. -/
def numV (a : Nd) : ByteArray := cond a.2.2.2.2.2.1 ((⟨#[36]⟩ : ByteArray) ++ ⟨(Lib.itoa a.2.2.2.2.1).toArray⟩) ⟨(Lib.itoa a.2.2.2.2.1).toArray⟩

theorem numV_size {a : Nd} (h : In64 a.2.2.2.2.1) : (numV a).size ≤ 22 := by
  have s1 := itoaSize h.1 h.2
  have h36 : (⟨#[36]⟩ : ByteArray).size = 1 := rfl
  unfold numV
  cases a.2.2.2.2.2.1 with
  | false => exact Nat.le_trans s1 (by omega)
  | true => rw [cond_true, ByteArray.size_append, h36]; omega

def vbs : List ByteArray := [(⟨#[115, 99, 97, 110]⟩ : ByteArray), (⟨#[102, 105, 108, 116, 101, 114]⟩ : ByteArray), (⟨#[107, 101, 101, 112]⟩ : ByteArray), (⟨#[106, 111, 105, 110]⟩ : ByteArray), (⟨#[98, 111, 116, 104]⟩ : ByteArray), (⟨#[115, 111, 114, 116]⟩ : ByteArray), (⟨#[108, 105, 109, 105, 116]⟩ : ByteArray), (⟨#[111, 110, 99, 101]⟩ : ByteArray)]
def opw : List ByteArray := [(⟨#[61]⟩ : ByteArray), (⟨#[60]⟩ : ByteArray), (⟨#[62]⟩ : ByteArray), (⟨#[110, 111, 110, 101]⟩ : ByteArray)]

theorem vbs_size (k : Nat) : (vbs.getD k ByteArray.empty).size ≤ 6 := by
  have : ∀ x ∈ vbs, x.size ≤ 6 := by decide +kernel
  rw [List.getD_eq_getElem?_getD]
  cases h : vbs[k]? with
  | none => exact Nat.zero_le _
  | some x => exact this x (List.mem_of_getElem? h)

theorem opw_size (k : Nat) : (opw.getD k ByteArray.empty).size ≤ 4 := by
  have : ∀ x ∈ opw, x.size ≤ 4 := by decide +kernel
  rw [List.getD_eq_getElem?_getD]
  cases h : opw[k]? with
  | none => exact Nat.zero_le _
  | some x => exact this x (List.mem_of_getElem? h)

theorem in64s {x : Int} (h : 0 ≤ x ∧ x ≤ 1000000) : In64 x := ⟨by omega, by omega⟩
theorem inum_v {N : Nat} {a : Nd} (h : In64 a.2.2.2.2.1) : F35 N a = some (numV a) := by
  have s1 := itoaSize h.1 h.2
  have h36 : (⟨#[36]⟩ : ByteArray).size = 1 := rfl
  unfold F35 numV
  rw [number_v h.1 h.2, andO_of, andO_of]
  cases a.2.2.2.2.2.1 with
  | false => rfl
  | true => rw [cond_true, cond_true, gd_true (by rw [h36]; omega)]

theorem snum_v {N : Nat} (hN : 50 < N) {a : Nd} (h : In64 a.2.2.2.2.1) : F29 N a = some (numV a) := by
  have s1 := itoaSize h.1 h.2
  have h36 : (⟨#[36]⟩ : ByteArray).size = 1 := rfl
  unfold F29 numV
  rw [l01Num_v hN h.1 h.2, andO_of, andO_of]
  cases a.2.2.2.2.2.1 with
  | false => rfl
  | true => rw [cond_true, cond_true, gd_true (by rw [h36]; omega)]
/-- The words of a node that keeps columns. -/
def keepW (v : ByteArray) (cols : List Int) : List ByteArray := [v, ⟨(Lib.itoa (cols.length : Int)).toArray⟩] ++ cols.map fun x => ⟨(Lib.itoa x).toArray⟩

theorem keepW_size {v : ByteArray} {cols : List Int} (hv : v.size ≤ 6) (hl : cols.length ≤ 64) (hc : ∀ x ∈ cols, In64 x) : ∀ x ∈ keepW v cols, x.size ≤ 21 := by
  intro x hx
  simp only [keepW, List.cons_append, List.nil_append, List.mem_cons, List.mem_map] at hx
  rcases hx with rfl | rfl | ⟨y, hy, rfl⟩
  · omega
  · exact itoaSize (by omega) (by omega)
  · exact itoaSize (hc y hy).1 (hc y hy).2

theorem keepW_len (v : ByteArray) (cols : List Int) : (keepW v cols).length = cols.length + 2 := by
  simp [keepW]

theorem keepW_at {v : ByteArray} {cols : List Int} {i : Nat} (hi : i < cols.length) (h : i + 2 < (keepW v cols).length) : (keepW v cols)[i + 2] = ⟨(Lib.itoa cols[i]).toArray⟩ := by
  simp [keepW]
theorem iKeep_l (N : Nat) (v : ByteArray) (cols : List Int) (hv : v.size ≤ 6) (hl : cols.length ≤ 64) (hc : ∀ x ∈ cols, In64 x) : ∀ (d k i : Nat), i + d = cols.length → d < k →
    F10_l0 N k ((keepW v cols).take (i + 2)) cols (cols.length : Int) (i : Int) = some (joinV (keepW v cols)) := by
  intro d
  have hlim := lim_str
  have hkl := keepW_len v cols
  induction d with
  | zero =>
    intro k i h hk
    rw [F10_l0_s _ (by omega), F10_l0_b]
    simp only [show ¬ (i : Int) < (cols.length : Int) by omega, decide_false, cond_false, F10_j0]
    rw [List.take_of_length_le (by omega), spaced_v (c := 21) (keepW_size hv hl hc) (by rw [hkl]; omega), andO_of]
  | succ d ih =>
    intro k i h hk
    have hi : i < cols.length := by omega
    have hx := hc _ (List.getElem_mem hi)
    have him : i + 2 < (keepW v cols).length := by omega
    rw [F10_l0_s _ (by omega), F10_l0_b]
    simp only [show (i : Int) < (cols.length : Int) by omega, decide_true, cond_true, gd_true (inR hi), Int.toNat_natCast, getD_at hi, number_v (N := N) hx.1 hx.2, andO_of]
    rw [gd_true (by rw [List.length_take]; simp; omega), ← keepW_at (v := v) hi him, ← List.take_succ_eq_append_getElem him, w64 (by omega) (by omega), show ((i : Int) + 1) = ((i + 1 : Nat) : Int) by omega, show i + 2 + 1 = i + 1 + 2 by omega]
    exact ih (k - 1) (i + 1) (by omega) (by omega)

theorem sKeep_l (N : Nat) (hN : 50 < N) (a0 : Int) (nm : ByteArray) (a1 a2 a3 : Int) (sl : Bool) (v : ByteArray) (cols : List Int) (hv : v.size ≤ 6) (hl : cols.length ≤ 64) (hc : ∀ x ∈ cols, In64 x) : ∀ (d k i : Nat), i + d = cols.length → d < k →
    F8_l0 N k a0 nm a1 a2 a3 sl cols (joinV ((keepW v cols).take (i + 2))) (i : Int) = some (joinV (keepW v cols)) := by
  intro d
  have hkl := keepW_len v cols
  induction d with
  | zero =>
    intro k i h hk
    rw [F8_l0_s _ (by omega), F8_l0_b]
    simp only [show ¬ (i : Int) < (cols.length : Int) by omega, decide_false, cond_false, F8_j0]
    rw [List.take_of_length_le (by omega)]
  | succ d ih =>
    intro k i h hk
    have hi : i < cols.length := by omega
    have hx := hc _ (List.getElem_mem hi)
    have him : i + 2 < (keepW v cols).length := by omega
    have hs := itoaSize hx.1 hx.2
    have h32 : (⟨#[32]⟩ : ByteArray).size = 1 := rfl
    have hjs : (joinV ((keepW v cols).take (i + 2))).size ≤ 22 * (i + 2) := by
      have := joinV_size (c := 21) (l := (keepW v cols).take (i + 2)) (fun x hx => keepW_size hv hl hc x (List.mem_of_mem_take hx))
      rw [List.length_take] at this
      have h2 : min (i + 2) (keepW v cols).length ≤ i + 2 := Nat.min_le_left _ _
      omega
    rw [F8_l0_s _ (by omega), F8_l0_b]
    simp only [show (i : Int) < (cols.length : Int) by omega, decide_true, cond_true, gd_true (inR hi), Int.toNat_natCast, getD_at hi, l01Num_v (N := N) hN hx.1 hx.2, andO_of]
    rw [gd_true (by rw [h32]; omega), gd_true (by rw [ByteArray.size_append, h32]; omega), w64 (by omega) (by omega), show ((i : Int) + 1) = ((i + 1 : Nat) : Int) by omega]
    have hnext := ih (k - 1) (i + 1) (by omega) (by omega)
    rw [show i + 1 + 2 = i + 2 + 1 by omega, List.take_succ_eq_append_getElem him, keepW_at hi him, joinV_snoc _ _ (by
      intro e
      have := congrArg List.length e
      rw [List.length_take] at this
      simp only [List.length_nil] at this
      omega)] at hnext
    exact hnext
theorem nodeText_v {N : Nat} {a : Nd} (hN : 1048576 < N) (hw : a.2.1.size ≤ 1048576) (hc : a.2.2.2.2.2.2.length ≤ 1048576) (h1 : In64 a.2.2.1) (h2 : In64 a.2.2.2.2.1) : ∃ r, F10 N a = some r ∧ F8 N a = some r ∧ r.size ≤ 2000 := by
  have hlim := lim_str
  unfold F10 F8
  rw [iNodeOk_v (by omega) (by omega) (by omega) (by omega) (by omega), sNodeOk_v (by omega) (by omega) (by omega) (by omega), andO_of, andO_of]
  cases hb : nodeB a with
  | false => exact ⟨ByteArray.empty, rfl, rfl, Nat.zero_le _⟩
  | true =>
    simp only [Bool.not_true, cond_false]
    rw [show F32 N = some vbs from rfl, show F26 N = some vbs from rfl, andO_of, andO_of]
    have hk : 0 ≤ a.1 ∧ a.1 ≤ 7 := by
      simp only [nodeB] at hb
      by_cases k0 : a.1 = 0
      · omega
      · by_cases k1 : a.1 = 1
        · omega
        · by_cases k2 : a.1 = 2
          · omega
          · by_cases k3 : a.1 = 3
            · omega
            · by_cases k5 : a.1 = 5
              · omega
              · by_cases k6 : a.1 = 6
                · omega
                · have f0 : (a.1 == 0) = false := by simpa using k0
                  have f1 : (a.1 == 1) = false := by simpa using k1
                  have f2 : (a.1 == 2) = false := by simpa using k2
                  have f3 : (a.1 == 3) = false := by simpa using k3
                  have f5 : (a.1 == 5) = false := by simpa using k5
                  have f6 : (a.1 == 6) = false := by simpa using k6
                  simp only [f0, f1, f2, f3, f5, f6, cond_false] at hb
                  simp at hb
                  omega
    have hin : InR a.1 vbs.length := ⟨hk.1, by show a.1 < 8; omega⟩
    have hlt : a.1.toNat < vbs.length := by show a.1.toNat < 8; omega
    have hvs := vbs_size a.1.toNat
    rw [gd_true hin, gd_true hlt, gd_true hin, gd_true hlt]
    obtain ⟨v, hv⟩ : ∃ v : ByteArray, vbs.getD a.1.toNat (Ty.dflt .str) = v := ⟨_, rfl⟩
    have hvs : v.size ≤ 6 := by rw [← hv]; exact hvs
    simp only [hv]
    have i1 := itoaSize h1.1 h1.2
    have i2 := itoaSize h2.1 h2.2
    have i3 := numV_size (a := a) h2
    have h32 : (⟨#[32]⟩ : ByteArray).size = 1 := rfl
    -- texts of few words
    have fin : ∀ l : List ByteArray, l.length ≤ 5 → (∀ x ∈ l, x.size ≤ 22) → F10_j0 N l = some (joinV l) ∧ (joinV l).size ≤ 2000 := by
      intro l hl hx
      unfold F10_j0
      have := joinV_size hx
      rw [spaced_v hx (by omega), andO_of]
      exact ⟨rfl, by omega⟩
    by_cases k0 : a.1 = 0
    · have hwd : a.2.1.size ≤ 12 := by
        simp only [nodeB, k0, beq_self_eq_true, cond_true, Bool.and_eq_true, wordB, decide_eq_true_eq] at hb
        omega
      rw [show (a.1 == 0) = true by simp [k0], cond_true, cond_true, gd_true (by simp; omega), gd_true (by rw [h32]; omega), gd_true (by rw [ByteArray.size_append, h32]; omega)]
      obtain ⟨f1, f2⟩ := fin [v, a.2.1] (by simp) (fun x hx => by
        simp only [List.mem_cons, List.not_mem_nil, or_false] at hx
        rcases hx with rfl | rfl <;> omega)
      exact ⟨_, f1, by rw [joinV2], f2⟩
    have f0 : (a.1 == 0) = false := by simpa using k0
    rw [f0, cond_false, cond_false]
    by_cases k1 : a.1 = 1
    · have hop : 0 ≤ a.2.2.2.1 ∧ a.2.2.2.1 ≤ 3 := by
        simp only [nodeB, f0, show (a.1 == 1) = true by simp [k1], cond_false, cond_true, Bool.and_eq_true, decide_eq_true_eq] at hb
        exact hb.1.2
      have hoi : InR a.2.2.2.1 opw.length := ⟨hop.1, by show a.2.2.2.1 < 4; omega⟩
      have hol : a.2.2.2.1.toNat < opw.length := by show a.2.2.2.1.toNat < 4; omega
      have hos := opw_size a.2.2.2.1.toNat
      rw [show (a.1 == 1) = true by simp [k1], cond_true, cond_true, number_v h1.1 h1.2, l01Num_v (by omega) h1.1 h1.2, andO_of, andO_of, show F34 N = some opw from rfl, show F28 N = some opw from rfl, andO_of, andO_of]
      obtain ⟨o, ho⟩ : ∃ o : ByteArray, opw.getD a.2.2.2.1.toNat (Ty.dflt .str) = o := ⟨_, rfl⟩
      have hos : o.size ≤ 4 := by rw [← ho]; exact hos
      simp only [ho]
      rw [gd_true hoi, gd_true hol, gd_true (by simp; omega), gd_true (by rw [h32]; omega), gd_true (by rw [ByteArray.size_append, h32]; omega), gd_true (by rw [ByteArray.size_append, ByteArray.size_append, h32]; omega), gd_true hoi, gd_true hol,
        gd_true (by rw [ByteArray.size_append, ByteArray.size_append, ByteArray.size_append, h32]; omega), inum_v h2, snum_v (by omega) h2, andO_of, andO_of]
      cases (a.2.2.2.1 != 3) with
      | true =>
        rw [cond_true, cond_true, gd_true (by simp; omega), gd_true (by rw [ByteArray.size_append, ByteArray.size_append, ByteArray.size_append, ByteArray.size_append, h32]; omega),
          gd_true (by rw [ByteArray.size_append, ByteArray.size_append, ByteArray.size_append, ByteArray.size_append, ByteArray.size_append, h32]; omega)]
        obtain ⟨f1, f2⟩ := fin [v, ⟨(Lib.itoa a.2.2.1).toArray⟩, o, numV a] (by simp) (fun x hx => by
          simp only [List.mem_cons, List.not_mem_nil, or_false] at hx
          rcases hx with rfl | rfl | rfl | rfl <;> omega)
        exact ⟨_, f1, by rw [joinV4]; rfl, f2⟩
      | false =>
        rw [cond_false, cond_false]
        obtain ⟨f1, f2⟩ := fin [v, ⟨(Lib.itoa a.2.2.1).toArray⟩, o] (by simp) (fun x hx => by
          simp only [List.mem_cons, List.not_mem_nil, or_false] at hx
          rcases hx with rfl | rfl | rfl <;> omega)
        exact ⟨_, f1, by rw [joinV3]; rfl, f2⟩
    have f1 : (a.1 == 1) = false := by simpa using k1
    rw [f1, cond_false, cond_false]
    by_cases k2 : a.1 = 2
    · obtain ⟨hcl, hcs⟩ : a.2.2.2.2.2.2.length ≤ 64 ∧ ∀ x ∈ a.2.2.2.2.2.2, In64 x := by
        simp only [nodeB, f0, f1, show (a.1 == 2) = true by simp [k2], cond_false, cond_true, Bool.and_eq_true, decide_eq_true_eq, List.all_eq_true] at hb
        refine ⟨by omega, fun x hx => ?_⟩
        have := hb.1.1.1.1.2 x hx
        exact ⟨by omega, by omega⟩
      have ic := itoaSize (n := (a.2.2.2.2.2.2.length : Int)) (by omega) (by omega)
      rw [show (a.1 == 2) = true by simp [k2], cond_true, cond_true, number_v (by omega) (by omega), l01Num_v (by omega) (by omega) (by omega), andO_of, andO_of, gd_true (by simp; omega), gd_true (by rw [h32]; omega), gd_true (by rw [ByteArray.size_append, h32]; omega)]
      have e1 := iKeep_l N v a.2.2.2.2.2.2 hvs hcl hcs a.2.2.2.2.2.2.length N 0 (by omega) (by omega)
      have e2 := sKeep_l N (by omega) a.1 a.2.1 a.2.2.1 a.2.2.2.1 a.2.2.2.2.1 a.2.2.2.2.2.1 v a.2.2.2.2.2.2 hvs hcl hcs a.2.2.2.2.2.2.length N 0 (by omega) (by omega)
      have ht : (keepW v a.2.2.2.2.2.2).take (0 + 2) = [v, ⟨(Lib.itoa (a.2.2.2.2.2.2.length : Int)).toArray⟩] := rfl
      rw [ht] at e1 e2
      rw [joinV2] at e2
      have hz := joinV_size (keepW_size hvs hcl hcs)
      rw [keepW_len] at hz
      exact ⟨_, e1, e2, by omega⟩
    have f2 : (a.1 == 2) = false := by simpa using k2
    rw [f2, cond_false, cond_false]
    by_cases k3 : a.1 = 3
    · rw [show (a.1 == 3) = true by simp [k3], cond_true, cond_true, number_v h1.1 h1.2, l01Num_v (by omega) h1.1 h1.2, andO_of, andO_of, number_v h2.1 h2.2, l01Num_v (by omega) h2.1 h2.2, andO_of, andO_of]
      rw [gd_true (by simp; omega), gd_true (by rw [h32]; omega), gd_true (by rw [ByteArray.size_append, h32]; omega), gd_true (by rw [ByteArray.size_append, ByteArray.size_append, h32]; omega), gd_true (by rw [ByteArray.size_append, ByteArray.size_append, ByteArray.size_append, h32]; omega)]
      obtain ⟨g1, g2⟩ := fin [v, ⟨(Lib.itoa a.2.2.1).toArray⟩, ⟨(Lib.itoa a.2.2.2.2.1).toArray⟩] (by simp) (fun x hx => by
        simp only [List.mem_cons, List.not_mem_nil, or_false] at hx
        rcases hx with rfl | rfl | rfl <;> omega)
      exact ⟨_, g1, by rw [joinV3]; rfl, g2⟩
    have f3 : (a.1 == 3) = false := by simpa using k3
    rw [f3, cond_false, cond_false]
    by_cases k5 : a.1 = 5
    · rw [show (a.1 == 5) = true by simp [k5], cond_true, cond_true, number_v h1.1 h1.2, l01Num_v (by omega) h1.1 h1.2, andO_of, andO_of]
      rw [gd_true (by simp; omega), gd_true (by rw [h32]; omega), gd_true (by rw [ByteArray.size_append, h32]; omega)]
      obtain ⟨g1, g2⟩ := fin [v, ⟨(Lib.itoa a.2.2.1).toArray⟩] (by simp) (fun x hx => by
        simp only [List.mem_cons, List.not_mem_nil, or_false] at hx
        rcases hx with rfl | rfl <;> omega)
      exact ⟨_, g1, by rw [joinV2]; rfl, g2⟩
    have f5 : (a.1 == 5) = false := by simpa using k5
    rw [f5, cond_false, cond_false]
    by_cases k6 : a.1 = 6
    · rw [show (a.1 == 6) = true by simp [k6], cond_true, cond_true, inum_v h2, snum_v (by omega) h2, andO_of, andO_of]
      rw [gd_true (by simp; omega), gd_true (by rw [h32]; omega), gd_true (by rw [ByteArray.size_append, h32]; omega)]
      obtain ⟨g1, g2⟩ := fin [v, numV a] (by simp) (fun x hx => by
        simp only [List.mem_cons, List.not_mem_nil, or_false] at hx
        rcases hx with rfl | rfl <;> omega)
      exact ⟨_, g1, by rw [joinV2]; rfl, g2⟩
    have f6 : (a.1 == 6) = false := by simpa using k6
    rw [f6, cond_false, cond_false]
    obtain ⟨g1, g2⟩ := fin [v] (by simp) (fun x hx => by
      simp only [List.mem_cons, List.not_mem_nil, or_false] at hx
      subst hx
      omega)
    exact ⟨_, g1, by rw [joinV_one]; rfl, g2⟩
theorem lawFnExactNodeText (a : Nd) (h : ndT.wf a) : ∃ N, F3 N a = some true := by
  refine ⟨3000000, ?_⟩
  have hs1 : a.2.1.size ≤ 9223372036854775807 := h.2.1
  have hs2 : a.2.2.2.2.2.2.length ≤ 9223372036854775807 := h.2.2.2.2.2.2.1
  have i1 : In64 a.2.2.1 := wf64 h.2.2.1
  have i2 : In64 a.2.2.2.2.1 := wf64 h.2.2.2.2.1
  unfold F3
  obtain ⟨r, e1, e2, e3, e4⟩ := szNode_v (N := 3000000) (l := 1048576) (by omega) (by omega) hs1 hs2
  rw [e1, andO_of]
  by_cases hr : r < 0
  · rw [decide_eq_true hr, cond_true]
  · have hf := e4 (by omega)
    obtain ⟨t, g1, g2, _⟩ := nodeText_v (N := 3000000) (by omega) hf.1 hf.2 i1 i2
    rw [decide_eq_false hr, cond_false]
    simp only [toNode_v (N := 3000000) hf.2 (by omega), andO_of, g1, g2, beq_self_eq_true, Bool.not_true, cond_false, eqNode_r (N := 3000000) hf.2 (by omega)]
/-- The text of a node, as the program gives it. -/
def nodeTx (N : Nat) (a : Nd) : ByteArray := (F10 N a).getD ByteArray.empty

theorem nodeTx_v {N : Nat} {a : Nd} (hN : 1048576 < N) (hw : a.2.1.size ≤ 1048576) (hc : a.2.2.2.2.2.2.length ≤ 1048576) (h1 : In64 a.2.2.1) (h2 : In64 a.2.2.2.2.1) : F10 N a = some (nodeTx N a) ∧ F8 N a = some (nodeTx N a) ∧ (nodeTx N a).size ≤ 2000 := by
  obtain ⟨r, e1, e2, e3⟩ := nodeText_v hN hw hc h1 h2
  have : nodeTx N a = r := by
    unfold nodeTx
    rw [e1]
    rfl
  rw [this]
  exact ⟨e1, e2, e3⟩

/-- Nodes whose numbers are numbers. -/
def Ints (p : List Nd) : Prop := ∀ x ∈ p, In64 x.2.2.1 ∧ In64 x.2.2.2.2.1

theorem ints_of {p : List Nd} (h : (Ty.sl ndT).wf p) : Ints p := fun x hx => ⟨wf64 (h.2 x hx).2.2.1, wf64 (h.2 x hx).2.2.2.2.1⟩

theorem nodeTxs_size {N : Nat} {p : List Nd} (hf : Fits p) (hi : Ints p) (hN : 1048576 < N) : ∀ x ∈ p.map (nodeTx N), x.size ≤ 2000 := by
  intro x hx
  rw [List.mem_map] at hx
  obtain ⟨y, hy, rfl⟩ := hx
  exact (nodeTx_v hN (hf.2 y hy).1 (hf.2 y hy).2 (hi y hy).1 (hi y hy).2).2.2
end Go.Proofs.YtfegppjofphpfaaDoor.Vc
