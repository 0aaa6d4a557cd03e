/- What functions of the program compute, and that they do. -/
import Derived.Test.YtnkgeljjjeeaaaaGreatDoorYa
namespace Go.Proofs.YtnkgeljjjeeaaaaGreatDoor.Vc
open Go Go.RowKit Go.Proofs.Tryz
set_option linter.unusedVariables false
set_option maxRecDepth 100000
set_option maxHeartbeats 4000000
def F48_j0 (N : Nat) (x31 : (List Z73)) : Option ((List Z73)) :=
  some x31
def F48_l0_b (N : Nat) (a0 : (List (List Z73))) (nx45 : (List Z73) → Int → Int → Option ((List Z73))) (x38 : (List Z73)) (x39 : Int) (x40 : Int) : Option ((List Z73)) :=
  cond (decide (x40 < x39)) (gd (InR x40 a0.length) (gd (x38.length + (a0.getD x40.toNat (Ty.dflt (.sl Y73))).length ≤ lim Y73) (nx45 (x38 ++ (a0.getD x40.toNat (Ty.dflt (.sl Y73)))) x39 (IntKind.i64.wrap (x40 + (1 : Int)))))) (F48_j0 N x38)
def F48_l0 (N : Nat) (a0 : (List (List Z73))) := loopF (F48_l0_b N a0) (fun _ _ _ => none)
theorem F48_l0_s N a0 {k} (hk : 0 < k) x38 x39 x40 : F48_l0 N a0 k x38 x39 x40 = F48_l0_b N a0 (F48_l0 N a0 (k - 1)) x38 x39 x40 := by cases k;cases hk;rfl
def F48_j1 (N : Nat) (a0 : (List (List Z73))) (x12 : Int) : Option ((List Z73)) :=
  andO (F94 N ([]) x12) fun y13 => F48_l0 N a0 N y13 (a0.length : Int) (0 : Int)
def F48_l1_b (N : Nat) (a0 : (List (List Z73))) (nx59 : Int → Int → Int → Option ((List Z73))) (x54 : Int) (x55 : Int) (x56 : Int) : Option ((List Z73)) :=
  cond (decide (x56 < x55)) (gd (InR x56 a0.length) (cond (decide ((IntKind.i64.wrap (x54 + ((a0.getD x56.toNat (Ty.dflt (.sl Y73))).length : Int))) < (0 : Int))) (none) (nx59 (IntKind.i64.wrap (x54 + ((a0.getD x56.toNat (Ty.dflt (.sl Y73))).length : Int))) x55 (IntKind.i64.wrap (x56 + (1 : Int)))))) (F48_j1 N a0 x54)
def F48_l1 (N : Nat) (a0 : (List (List Z73))) := loopF (F48_l1_b N a0) (fun _ _ _ => none)
theorem F48_l1_s N a0 {k} (hk : 0 < k) x54 x55 x56 : F48_l1 N a0 k x54 x55 x56 = F48_l1_b N a0 (F48_l1 N a0 (k - 1)) x54 x55 x56 := by cases k;cases hk;rfl
def F48 (N : Nat) (a0 : (List (List Z73))) : Option ((List Z73)) :=
  F48_l1 N a0 N (0 : Int) (a0.length : Int) (0 : Int)
theorem ok48 N a0 {r} (h : F48 N a0 = some r) : Con prog 48 [Vv (.sl (.sl Y73)) a0] [.lf (.own Y73 r .tp)] := by
 refine ctr [.lf (.own Y73 .tp)] K func48 rfl fun w0 E0 ht => ?_
 unfold F48 at h
 show VW _ _ _ _ _ (retQ _ _ _ _) _
 refine nR K (tn 1) <| nR K (tn 1) ?_
 refine VW.join (fun s => ∃ x12, s = ⟨[(0, Vv (.sl (.sl Y73)) a0), (3, I x12)], []⟩ ∧ F48_j1 N a0 x12 = some r) ?_ ?_
 ·refine nR K (tn 3) <| VW.block <| lop (fun k s => ∃ x54 x55 x56, s = ⟨[(0, Vv (.sl (.sl Y73)) a0), (3, I x54), (9, Vv (.sl (.sl Y73)) a0), (10, I x55), (11, I x56)], []⟩ ∧ F48_l1 N a0 k x54 x55 x56 = some r) N [.ren [0, 3, 9, 10, 11] []] ⟨(0 : Int), (a0.length : Int), (0 : Int), rfl, h⟩ ?_
  rintro k59 s ⟨x54, x55, x56, rfl, h⟩
  cases k59 with
  | zero => cases show none = some r from h
  | succ k59 =>
   replace h : F48_l1_b N a0 (F48_l1 N a0 k59) x54 x55 x56 = some r := h
   unfold F48_l1_b at h
   refine nR K (tn 1) <| sq ?_
   refine cnd h ?_ ?_<;>intro h
   ·refine VW.skip <| sq <| VW.block ?_
    obtain⟨g61,h⟩:=gS h
    refine nR K (an g61 (tn 2)) <| nR K (tn 5) <| nR K (tn 2) ?_
    refine cnd h ?_ ?_<;>intro h
    ·exact nomatch h
    refine VW.skip <| nE K (tn 2) ?_
    exact aro [.ren [0, 3, 9, 10, 11] []] ⟨(wr (x54 + ((a0.getD x56.toNat (Ty.dflt (.sl Y73))).length : Int))), x55, (wr (x56 + (1 : Int))), rfl, h⟩
   refine VW.exit ?_
   exact arv [.ren [0, 3] []] ⟨x54, rfl, h⟩
 rintro s ⟨x12, rfl, h⟩
 unfold F48_j1 at h
 refine sq <| VW.region <| nG K 1 (tn 1) ?_
 obtain⟨y13,hy,h⟩:=aS h
 refine clc false [.k, .t (.int .i64)] [] (some 24) K (ok94 N _ _ hy) <| nN K (tn 1) ?_
 refine VW.join (fun s => ∃ x31, s = ⟨[(6, hh 0)], [ar 0 Y73 x31 .tp]⟩ ∧ F48_j0 N x31 = some r) ?_ ?_
 ·refine nR K (tn 3) <| VW.block <| lop (fun k s => ∃ x38 x39 x40, s = ⟨[(6, hh 0), (25, Vv (.sl (.sl Y73)) a0), (26, I x39), (27, I x40)], [ar 0 Y73 x38 .tp]⟩ ∧ F48_l0 N a0 k x38 x39 x40 = some r) N [.ren [6, 25, 26, 27] [0]] ⟨y13, (a0.length : Int), (0 : Int), rfl, h⟩ ?_
  rintro k45 s ⟨x38, x39, x40, rfl, h⟩
  cases k45 with
  | zero => cases show none = some r from h
  | succ k45 =>
   replace h : F48_l0_b N a0 (F48_l0 N a0 k45) x38 x39 x40 = some r := h
   unfold F48_l0_b at h
   refine nR K (tn 1) <| sq ?_
   refine cnd h ?_ ?_<;>intro h
   ·refine VW.skip <| sq <| VW.block ?_
    obtain⟨g48,h⟩:=gS h
    refine nR K (an g48 (tn 2)) ?_
    obtain⟨g49,h⟩:=gS h
    refine nE K (pu 2 (an g49 (tn 1))) <| nE K (tn 2) ?_
    exact aro [.ren [6, 25, 26, 27] [0]] ⟨(x38 ++ (a0.getD x40.toNat (Ty.dflt (.sl Y73)))), x39, (wr (x40 + (1 : Int))), rfl, h⟩
   refine VW.exit ?_
   exact arv [.ren [6] [0]] ⟨x38, rfl, h⟩
 rintro s ⟨x31, rfl, h⟩
 unfold F48_j0 at h
 refine nR K (tn 2) ?_
 cases h; exact VW.ret (rt [some 0])
def F96 (N : Nat) (a0 : Int) : Option (ByteArray) :=
  gd (-9223372036854775808 ≤ a0 ∧ a0 ≤ 9223372036854775807) (some ⟨(Lib.itoa a0).toArray⟩)
theorem ok96 N a0 {r} (h : F96 N a0 = some r) : Con prog 96 [I a0] [.lf (.v .str r)] := by
 obtain ⟨g, h⟩ := gd_some h
 cases h
 exact con_itoa (g := 3) (by kernel_rfl) (enters_of func96 rfl (by decide)) (fun w ht => Go.Proofs.Tryz.strconv_Itoa a0 g.1 g.2 w ht)
def F50 (N : Nat) (a0 : Int) : Option (ByteArray) :=
  andO (F96 N a0) fun y1 => some y1
theorem ok50 N a0 {r} (h : F50 N a0 = some r) : Con prog 50 [I a0] [.lf (.v .str r)] := by
 refine ctr [.lf (.v .str)] K func50 rfl fun w0 E0 ht => ?_
 unfold F50 at h
 show VW _ _ _ _ _ (retQ _ _ _ _) _
 refine nR K (tn 1) <| sq <| VW.region <| nG K 1 (tn 1) ?_
 obtain⟨y1,hy,h⟩:=aS h
 refine clc false [.t (.int .i64)] [] (some 4) K (ok96 N _ hy) <| nN K (tn 1) ?_
 cases h; exact VW.ret (rt [])
def F97 (N : Nat) (a0 : (List ByteArray)) (a1 : ByteArray) : Option (ByteArray) :=
  gd (a0.length ≤ 140737488355328 ∧ (Lib.join (a0.map (·.data.toList)) a1.data.toList).length ≤ 140737488355328) (some ⟨(Lib.join (a0.map (·.data.toList)) a1.data.toList).toArray⟩)
theorem ok97 N a0 a1 {r} (h : F97 N a0 a1 = some r) : Con prog 97 [.lf (.v (.sl .str) a0), S a1] [.lf (.v .str r)] := by
 obtain ⟨g, h⟩ := gd_some h
 cases h
 exact con_join (enters_of func97 rfl (by decide)) g.1 g.2 (fun a c w => Go.Proofs.Tryz.strings_Join_none a c a1 w) (fun bk o c w h1 h2 h3 => Go.Proofs.Tryz.strings_Join bk o c a0 a1 w h1 h2 g.1 h3 g.2)
def F51 (N : Nat) (a0 : (List ByteArray)) : Option (ByteArray) :=
  andO (F97 N a0 (⟨#[32]⟩ : ByteArray)) fun y1 => some y1
theorem ok51 N a0 {r} (h : F51 N a0 = some r) : Con prog 51 [Vv (.sl .str) a0] [.lf (.v .str r)] := by
 refine ctr [.lf (.v .str)] K func51 rfl fun w0 E0 ht => ?_
 unfold F51 at h
 show VW _ _ _ _ _ (retQ _ _ _ _) _
 refine nR K (tn 1) <| sq <| VW.region <| nG K 1 (tn 1) ?_
 obtain⟨y1,hy,h⟩:=aS h
 refine clc false [.t (.sl .str), .t .str] [] (some 4) K (ok97 N _ _ hy) <| nN K (tn 1) ?_
 cases h; exact VW.ret (rt [])
def F52 (N : Nat) (a0 : ByteArray) (a1 : ByteArray) : Option (List ByteArray) :=
  gd (a0.size < 4294967281 ∧ 1 ≤ a1.size) (some (Lib.splitB a1 0 (Lib.countB a0 a1) a0))
theorem ok52 N a0 a1 {r} (h : F52 N a0 a1 = some r) : Con prog 52 [S a0, S a1] [.lf (.own .str r .dp)] := by
 obtain ⟨g, h⟩ := gd_some h
 cases h
 have hle := Lib.countB_le a1 g.2 a0.size a0 (Nat.le_refl _)
 exact con_split (gp := 3) (g := 0) (by kernel_rfl) (by kernel_rfl) (enters_of func52 rfl (by decide)) (Lib.splitB_all a1 g.2 0 _ a0 rfl) (by omega) (fun m w hm => Go.Proofs.Tryz.strings_Split a0 a1 m w g.1 hm g.2)
def F53 (N : Nat) (a0 : ByteArray) (a1 : ByteArray) : Option (ByteArray × ByteArray × Bool) :=
  gd (a0.size < 4294967281) (some (⟨(Lib.cut a0.data.toList a1.data.toList).1.toArray⟩, ⟨(Lib.cut a0.data.toList a1.data.toList).2.1.toArray⟩, (Lib.cut a0.data.toList a1.data.toList).2.2))
theorem ok53 N a0 a1 {r} (h : F53 N a0 a1 = some r) : Con prog 53 [S a0, S a1] [.lf (.v .str r.1), .lf (.v .str r.2.1), .lf (.v .bool r.2.2)] := by
 obtain ⟨g, h⟩ := gd_some h
 cases h
 exact con_cut (gp := 3) (g := 0) (by kernel_rfl) (by kernel_rfl) (enters_of func53 rfl (by decide)) (fun m w hm => Go.Proofs.Tryz.strings_Cut a0 a1 m w g hm)
theorem read_w (s : ByteArray) (w : World) (hs : s.size ≤ 281474976710656) (hT : Tabs prog w noE) : Calls prog 54 #[.string s] w fun e w' => e = .returned (.tuple #[.int .i64 (rdV s).1, .bool (rdV s).2]) ∧ Below w.heap.size w w' := by
 cases hA : Lib.atoiAll s.data.toList with
 | ok v =>
  have hr := atoi_range hA
  have cA := Go.Proofs.Tryz.strconv_Atoi_ok s (by omega) v hA w
  have cN : ∀ W, Below w.heap.size w W → Calls prog 50 #[.int .i64 v] W fun e w' => e = .returned (.string ⟨(Lib.itoa v).toArray⟩) ∧ Below W.heap.size W w' := fun W hB =>
   (ok50 0 v (r := ⟨(Lib.itoa v).toArray⟩) (by unfold F50 F96; rw [gd_true hr]; rfl)).plain_text (hT.below hB)
  have cI : ∀ W, Below w.heap.size w W → Calls prog 101 #[.int .i64 v] W fun e w' => e = .returned (.bool (decide (NumV v))) ∧ Below W.heap.size W w' := fun W hB =>
   (ok101 0 v (r := decide (NumV v)) (by
        unfold F101 F61 NumV
        by_cases h1 : -1000000 ≤ v <;> by_cases h2 : v ≤ 1000000 <;> simp [h1, h2, andO])).plain_bool (hT.below hB)
  have hB1 : ∀ W, (W = w ∨ ∃ t, W = Lib.bytesWorld w (Go.Proofs.Tryz.laysC172_ren.t 5) t) → Below w.heap.size w W := fun W h => by
   rcases h with rfl | ⟨t, rfl⟩
   ·exact Below.refl _ _
   exact Go.Joins.below_bytesWorld _ _ _ _ (Nat.le_refl _)
  unfold rdV
  rw [hA]
  obtain ⟨t, ht⟩ : ∃ t : ByteArray, (⟨(Lib.itoa v).toArray⟩ : ByteArray) = t := ⟨_, rfl⟩
  simp only [ht] at cN ⊢
  clear ht hA
  have fin : ∀ {W1 W2 : World}, Below w.heap.size w W1 → Below W1.heap.size W1 W2 → Below w.heap.size w W2 := fun h1 h2 => h1.trans (h2.mono h1.size)
  by_cases h1 : t = s
  ·by_cases h2 : NumV v
   ·rw [if_pos ⟨h1, h2⟩]
    rw [decide_eq_true h2] at cI
    subst h1
    go_enter func54, Go.Proofs.Tryz.ntmps54
    go_wp2_with (first
          | (go_at_call 100; refine cA.mono ?_; rintro e W1 ⟨rfl, hW⟩; have hb1 := hB1 _ hW)
          | (go_at_call 50; refine (cN _ hb1).mono ?_; rintro e W2 ⟨rfl, hb2⟩)
          | (go_at_call 101; refine (cI _ (fin hb1 hb2)).mono ?_; rintro e W3 ⟨rfl, hb3⟩))
    go_ret2
    exact ⟨rfl, fin (fin hb1 hb2) hb3⟩
   rw [if_neg (fun h => h2 h.2)]
   rw [decide_eq_false h2] at cI
   subst h1
   go_enter func54, Go.Proofs.Tryz.ntmps54
   go_wp2_with (first
          | (go_at_call 100; refine cA.mono ?_; rintro e W1 ⟨rfl, hW⟩; have hb1 := hB1 _ hW)
          | (go_at_call 50; refine (cN _ hb1).mono ?_; rintro e W2 ⟨rfl, hb2⟩)
          | (go_at_call 101; refine (cI _ (fin hb1 hb2)).mono ?_; rintro e W3 ⟨rfl, hb3⟩))
   go_ret2
   exact ⟨rfl, fin (fin hb1 hb2) hb3⟩
  rw [if_neg (fun h => h1 h.1)]
  have h3 : ¬ t.toList = s.toList := fun e => h1 (by
        rw [ByteArray.toList_eq, ByteArray.toList_eq] at e
        exact ByteArray.ext (Array.toList_inj.1 e))
  go_enter func54, Go.Proofs.Tryz.ntmps54
  go_wp2_with (first
        | (go_at_call 100; refine cA.mono ?_; rintro e W1 ⟨rfl, hW⟩; have hb1 := hB1 _ hW)
        | (go_at_call 50; refine (cN _ hb1).mono ?_; rintro e W2 ⟨rfl, hb2⟩)
        | fail)
  go_ret2
  exact ⟨rfl, fin hb1 hb2⟩
 | range =>
  obtain ⟨ev, hv, hev⟩ := hT.err2 (gp := 3) (g := 2) (by kernel_rfl) (by kernel_rfl)
  have cA := Go.Proofs.Tryz.strconv_Atoi_range s hs hA ev w hv hev
  generalize Lib.atoiSat s.data.toList = sat at cA
  unfold rdV
  rw [hA]
  clear hT hA
  go_enter func54, Go.Proofs.Tryz.ntmps54
  go_wp2_with (go_at_call 100; refine cA.mono ?_; rintro e W1 ⟨N, rfl, _, _, hb1⟩)
  go_ret2
  exact ⟨rfl, hb1⟩
 | _ =>
  obtain ⟨ev, hv, hev⟩ := hT.err1 (gp := 3) (g := 1) (by kernel_rfl) (by kernel_rfl)
  have cA := Go.Proofs.Tryz.strconv_Atoi_syntax s hs hA ev w hv hev
  unfold rdV
  rw [hA]
  clear hT hA
  go_enter func54, Go.Proofs.Tryz.ntmps54
  go_wp2_with (go_at_call 100; refine cA.mono ?_; rintro e W1 ⟨N, rfl, _, _, hb1⟩)
  go_ret2
  exact ⟨rfl, hb1⟩
def F54 (N : Nat) (a0 : ByteArray) : Option (Int × Bool) :=
  gd (a0.size ≤ 281474976710656) (some (rdV a0))
theorem ok54 N a0 {r} (h : F54 N a0 = some r) : Con prog 54 [S a0] [.lf (.v (.int .i64) r.1), .lf (.v .bool r.2)] := by
 obtain ⟨g, h⟩ := gd_some h
 cases h
 exact con_read (enters_of func54 rfl (by decide)) (fun w hT => read_w a0 w g hT)
def F176_j0 (N : Nat) : Option (Bool) :=
  some false
def F176_l0_b (N : Nat) (a0 : (List Int)) (a1 : Int) (nx15 : Int → Option (Bool)) (x12 : Int) : Option (Bool) :=
  cond (decide (x12 < (a0.length : Int))) (gd (InR x12 a0.length) (cond ((a0.getD x12.toNat (Ty.dflt (.int .i64))) == a1) (some true) (nx15 (IntKind.i64.wrap (x12 + (1 : Int)))))) (F176_j0 N)
def F176_l0 (N : Nat) (a0 : (List Int)) (a1 : Int) := loopF (F176_l0_b N a0 a1) (fun _ => none)
theorem F176_l0_s N a0 a1 {k} (hk : 0 < k) x12 : F176_l0 N a0 a1 k x12 = F176_l0_b N a0 a1 (F176_l0 N a0 a1 (k - 1)) x12 := by cases k;cases hk;rfl
def F176 (N : Nat) (a0 : (List Int)) (a1 : Int) : Option (Bool) :=
  F176_l0 N a0 a1 N (0 : Int)
theorem ok176 N a0 a1 {r} (h : F176 N a0 a1 = some r) : Con prog 176 [Vv (.sl (.int .i64)) a0, I a1] [.lf (.v .bool r)] := by
 refine ctr [.lf (.v .bool)] K func176 rfl fun w0 E0 ht => ?_
 unfold F176 at h
 show VW _ _ _ _ _ (retQ _ _ _ _) _
 refine nR K (tn 1) ?_
 refine VW.join (fun s => s = ⟨[], []⟩ ∧ F176_j0 N = some r) ?_ ?_
 ·refine nR K (tn 1) <| VW.block <| lop (fun k s => ∃ x12, s = ⟨[(0, Vv (.sl (.int .i64)) a0), (1, I a1), (5, I x12)], []⟩ ∧ F176_l0 N a0 a1 k x12 = some r) N [.ren [0, 1, 5] []] ⟨(0 : Int), rfl, h⟩ ?_
  rintro k15 s ⟨x12, rfl, h⟩
  cases k15 with
  | zero => cases show none = some r from h
  | succ k15 =>
   replace h : F176_l0_b N a0 a1 (F176_l0 N a0 a1 k15) x12 = some r := h
   unfold F176_l0_b at h
   refine sq <| nR K (tn 4) ?_
   refine cnd h ?_ ?_<;>intro h
   ·refine VW.skip <| sq <| VW.block ?_
    obtain⟨g17,h⟩:=gS h
    refine nR K (pu 2 (an g17 (tn 3))) ?_
    refine cnd h ?_ ?_<;>intro h
    ·refine nR K (tn 1) ?_
     cases h; exact VW.ret (rt [])
    refine VW.skip <| nE K (tn 3) ?_
    exact aro [.ren [0, 1, 5] []] ⟨(wr (x12 + (1 : Int))), rfl, h⟩
   refine VW.exit ?_
   exact arv [.ren [] []] ⟨rfl, h⟩
 rintro s ⟨rfl, h⟩
 unfold F176_j0 at h
 refine nR K (tn 1) ?_
 cases h; exact VW.ret (rt [])
def F168_j0 (N : Nat) (x210 : (List Int)) : Option ((List Int)) :=
  some x210
def F168_j1 (N : Nat) (nx350 : (List Int) → Int → Option ((List Int))) (x281 : Int) (x384 : (List Int)) : Option ((List Int)) :=
  nx350 x384 (IntKind.i64.wrap (x281 + (1 : Int)))
def F168_j2 (N : Nat) (nx408 : (List Int) → Int → Option ((List Int))) (x397 : Int) (x413 : (List Int)) : Option ((List Int)) :=
  nx408 x413 (IntKind.i64.wrap (x397 + (1 : Int)))
def F168_l0_b (N : Nat) (a0 : (List Z73)) (nx350 : (List Int) → Int → Option ((List Int))) (x281 : Int) (nx408 : (List Int) → Int → Option ((List Int))) (x396 : (List Int)) (x397 : Int) : Option ((List Int)) :=
  cond (decide (x397 < (a0.length : Int))) (gd (InR x397 a0.length) (cond ((a0.getD x397.toNat (Ty.dflt Y73)).2.2.2.2.2.1) (gd (InR x397 a0.length) (cond (((a0.getD x397.toNat (Ty.dflt Y73)).2.2.2.2.1) == x281) (andO (F176 N x396 x281) fun y417 => cond (!y417) (gd (x396.length + ([x281]).length ≤ lim (.int .i64)) (F168_j2 N nx408 x397 (x396 ++ ([x281])))) (F168_j2 N nx408 x397 x396)) (F168_j2 N nx408 x397 x396))) (F168_j2 N nx408 x397 x396))) (F168_j1 N nx350 x281 x396)
def F168_l0 (N : Nat) (a0 : (List Z73)) (nx350 : (List Int) → Int → Option ((List Int))) (x281 : Int) := loopF (F168_l0_b N a0 nx350 x281) (fun _ _ => none)
theorem F168_l0_s N a0 nx350 x281 {k} (hk : 0 < k) x396 x397 : F168_l0 N a0 nx350 x281 k x396 x397 = F168_l0_b N a0 nx350 x281 (F168_l0 N a0 nx350 x281 (k - 1)) x396 x397 := by cases k;cases hk;rfl
def F168_l1_b (N : Nat) (a0 : (List Z73)) (nx350 : (List Int) → Int → Option ((List Int))) (x280 : (List Int)) (x281 : Int) : Option ((List Int)) :=
  cond (decide (x281 < (40 : Int))) (F168_l0 N a0 nx350 x281 N x280 (0 : Int)) (F168_j0 N x280)
def F168_l1 (N : Nat) (a0 : (List Z73)) := loopF (F168_l1_b N a0) (fun _ _ => none)
theorem F168_l1_s N a0 {k} (hk : 0 < k) x280 x281 : F168_l1 N a0 k x280 x281 = F168_l1_b N a0 (F168_l1 N a0 (k - 1)) x280 x281 := by cases k;cases hk;rfl
def F168 (N : Nat) (a0 : (List Z73)) : Option ((List Int)) :=
  andO (F40 N a0) fun y2 => cond (!y2) (some ([])) (F168_l1 N a0 N ([]) (0 : Int))
theorem ok168 N a0 {r} (h : F168 N a0 = some r) : Con prog 168 [Vv (.sl Y73) a0] [.lf (.own (.int .i64) r .dp)] := by
 refine ctr [.lf (.own (.int .i64) .dp)] K func168 rfl fun w0 E0 ht => ?_
 unfold F168 at h
 show VW _ _ _ _ _ (retQ _ _ _ _) _
 refine nR K (tn 1) <| nR K (tn 2) <| sq <| sq <| VW.region <| nG K 1 (tn 1) ?_
 obtain⟨y2,hy,h⟩:=aS h
 refine clc false [.t (.sl Y73)] [] (some 8) K (ok40 N _ hy) <| nN K (tn 1) ?_
 refine cnd h ?_ ?_<;>intro h
 ·refine nR K (tn 1) ?_
  cases h; exact VW.ret (rt [none])
 refine VW.skip ?_
 refine VW.join (fun s => ∃ x210, s = ⟨[(3, hh 0)], [ar 0 (.int .i64) x210 .dp]⟩ ∧ F168_j0 N x210 = some r) ?_ ?_
 ·refine nR K (tn 1) <| VW.block <| lop (fun k s => ∃ x280 x281, s = ⟨[(0, Vv (.sl Y73) a0), (3, hh 0), (4, I x281)], [ar 0 (.int .i64) x280 .dp]⟩ ∧ F168_l1 N a0 k x280 x281 = some r) N [.nilS 3 (.int .i64) .dp, .ren [0, 3, 4] [0]] ⟨[], (0 : Int), rfl, h⟩ ?_
  rintro k350 s ⟨x280, x281, rfl, h⟩
  cases k350 with
  | zero => cases show none = some r from h
  | succ k350 =>
   replace h : F168_l1_b N a0 (F168_l1 N a0 k350) x280 x281 = some r := h
   unfold F168_l1_b at h
   refine sq <| nR K (tn 2) ?_
   refine cnd h ?_ ?_<;>intro h
   ·refine VW.skip ?_
    refine VW.join (fun s => ∃ x384, s = ⟨[(0, Vv (.sl Y73) a0), (3, hh 0), (4, I x281)], [ar 0 (.int .i64) x384 .dp]⟩ ∧ F168_j1 N (F168_l1 N a0 k350) x281 x384 = some r) ?_ ?_
    ·refine VW.block <| nR K (tn 1) <| VW.block <| lop (fun k s => ∃ x396 x397, s = ⟨[(0, Vv (.sl Y73) a0), (3, hh 0), (4, I x281), (5, I x397)], [ar 0 (.int .i64) x396 .dp]⟩ ∧ F168_l0 N a0 (F168_l1 N a0 k350) x281 k x396 x397 = some r) N [.ren [0, 3, 4, 5] [0]] ⟨x280, (0 : Int), rfl, h⟩ ?_
     rintro k408 s ⟨x396, x397, rfl, h⟩
     cases k408 with
     | zero => cases show none = some r from h
     | succ k408 =>
      replace h : F168_l0_b N a0 (F168_l1 N a0 k350) x281 (F168_l0 N a0 (F168_l1 N a0 k350) x281 k408) x396 x397 = some r := h
      unfold F168_l0_b at h
      refine sq <| nR K (tn 4) ?_
      refine cnd h ?_ ?_<;>intro h
      ·refine VW.skip ?_
       refine VW.join (fun s => ∃ x413, s = ⟨[(0, Vv (.sl Y73) a0), (3, hh 0), (4, I x281), (5, I x397)], [ar 0 (.int .i64) x413 .dp]⟩ ∧ F168_j2 N (F168_l0 N a0 (F168_l1 N a0 k350) x281 k408) x397 x413 = some r) ?_ ?_
       ·refine VW.block <| sq <| VW.region ?_
        obtain⟨g415,h⟩:=gS h
        refine nG K 6 (pu 2 (an g415 (tn 3))) ?_
        refine spC 25 h ?_ ?_<;>intro h
        ·obtain⟨g416,h⟩:=gS h
         refine nG K 9 (pu 2 (an g416 (tn 6))) ?_
         refine spC 34 h ?_ ?_<;>intro h
         ·refine nG K 2 (tn 2) <| VO.on (j := 14) (want := true) (d := 34) (b := true) rfl rfl rfl (by kernel_rfl) rfl ?_
          obtain⟨y417,hy,h⟩:=aS h
          refine clc true [.t (.sl (.int .i64)), .t (.int .i64)] [] (some 37) K (ok176 N _ _ hy) <| nN K (tn 2) ?_
          refine cnd h ?_ ?_<;>intro h
          ·obtain⟨g418,h⟩:=gS h
           refine nE K (pu 3 (an g418 (tn 1))) ?_
           exact arv [.ren [0, 3, 4, 5] [0]] ⟨(x396 ++ ([x281])), rfl, h⟩
          refine VW.skip ?_
          exact arv [.ren [0, 3, 4, 5] [0]] ⟨x396, rfl, h⟩
         refine nN K (tn 5) ?_
         refine VW.cond (b := false) (by kernel_rfl) (fun h' => nomatch h') (fun _ => ?_)
         refine VW.skip ?_
         exact arv [.ren [0, 3, 4, 5] [0]] ⟨x396, rfl, h⟩
        refine nN K (tn 14) ?_
        refine VW.cond (b := false) (by kernel_rfl) (fun h' => nomatch h') (fun _ => ?_)
        refine VW.skip ?_
        exact arv [.ren [0, 3, 4, 5] [0]] ⟨x396, rfl, h⟩
       rintro s ⟨x413, rfl, h⟩
       unfold F168_j2 at h
       refine nE K (tn 3) ?_
       exact aro [.ren [0, 3, 4, 5] [0]] ⟨x413, (wr (x397 + (1 : Int))), rfl, h⟩
      refine VW.exit ?_
      exact arv [.ren [0, 3, 4] [0]] ⟨x396, rfl, h⟩
    rintro s ⟨x384, rfl, h⟩
    unfold F168_j1 at h
    refine nE K (tn 3) ?_
    exact aro [.ren [0, 3, 4] [0]] ⟨x384, (wr (x281 + (1 : Int))), rfl, h⟩
   refine VW.exit ?_
   exact arv [.ren [3] [0]] ⟨x280, rfl, h⟩
 rintro s ⟨x210, rfl, h⟩
 unfold F168_j0 at h
 refine nR K (tn 2) ?_
 cases h; exact VW.ret (rt [some 0])
def F154 (N : Nat) (a0 : (List Z73)) : Option (Bool) :=
  andO (F40 N a0) fun y1 => cond y1 (andO (F168 N a0) fun y2 => some ((y2.length : Int) == (0 : Int))) (some false)
theorem ok154 N a0 {r} (h : F154 N a0 = some r) : Con prog 154 [Vv (.sl Y73) a0] [.lf (.v .bool r)] := by
 refine ctr [.lf (.v .bool)] K func154 rfl fun w0 E0 ht => ?_
 unfold F154 at h
 show VW _ _ _ _ _ (retQ _ _ _ _) _
 refine nR K (tn 1) <| sq <| VW.region <| nG K 1 (tn 1) ?_
 obtain⟨y1,hy,h⟩:=aS h
 refine clc false [.t (.sl Y73)] [] (some 4) K (ok40 N _ hy) <| nG K 1 (tn 1) ?_
 refine spC 5 h ?_ ?_<;>intro h
 ·refine nG K 1 (tn 1) <| VO.on (j := 2) (want := true) (d := 5) (b := true) rfl rfl rfl (by kernel_rfl) rfl ?_
  obtain⟨y2,hy,h⟩:=aS h
  refine clc false [.t (.sl Y73)] [] (some 7) K (ok168 N _ hy) <| nN K (tn 4) ?_
  cases h; exact VW.ret (rt [])
 refine nN K (tn 6) ?_
 cases h; exact VW.ret (rt [])
def F155 (N : Nat) (a0 : Z73) : Option (Bool) :=
  cond (a0.1 == (1 : Int)) (cond (a0.2.2.2.1 != (3 : Int)) (some true) (some (a0.1 == (6 : Int)))) (some (a0.1 == (6 : Int)))
theorem ok155 N a0 {r} (h : F155 N a0 = some r) : Con prog 155 [.agg (lv Y73 a0)] [.lf (.v .bool r)] := by
 refine ctr [.lf (.v .bool)] K func155 rfl fun w0 E0 ht => ?_
 unfold F155 at h
 show VW _ _ _ _ _ (retQ _ _ _ _) _
 refine nR K (tn 2) <| sq <| VW.region <| nG K 4 (tn 4) ?_
 refine spC 6 h ?_ ?_<;>intro h
 ·refine nG K 5 (tn 5) ?_
  refine spC 11 h ?_ ?_<;>intro h
  ·refine nN K (tn 5) ?_
   cases h; exact VW.ret (rt [])
  refine nN K (tn 5) ?_
  cases h; exact VW.ret (rt [])
 refine nN K (tn 10) ?_
 cases h; exact VW.ret (rt [])
def F136_j0 (N : Nat) (x95 : (List Z73)) (x96 : (List Int)) : Option ((List Z73) × (List Int) × Bool) :=
  some (x95, x96, true)
def F136_j1 (N : Nat) (nx159 : (List Z73) → (List Int) → Int → Option ((List Z73) × (List Int) × Bool)) (x129 : Int) (x173 : (List Z73)) (x174 : (List Int)) : Option ((List Z73) × (List Int) × Bool) :=
  nx159 x173 x174 (IntKind.i64.wrap (x129 + (1 : Int)))
def F136_l0_b (N : Nat) (nx159 : (List Z73) → (List Int) → Int → Option ((List Z73) × (List Int) × Bool)) (x127 : (List Z73)) (x128 : (List Int)) (x129 : Int) : Option ((List Z73) × (List Int) × Bool) :=
  cond (decide (x129 < (x127.length : Int))) (gd (InR x129 x127.length) (gd (x129.toNat < x127.length) (andO (F155 N (x127.getD x129.toNat (Ty.dflt Y73))) fun y180 => cond (!y180) (F136_j1 N nx159 x129 x127 x128) (gd (InR x129 x127.length) (gd (x129.toNat < x127.length) (gd (x128.length + ([(x127.getD x129.toNat (Ty.dflt Y73)).2.2.2.2.1]).length ≤ lim (.int .i64)) (gd (InR x129 x127.length) (gd (x129.toNat < x127.length) (gd (InR x129 (x127.set x129.toNat ((x127.getD x129.toNat (Ty.dflt Y73)).1, ((x127.getD x129.toNat (Ty.dflt Y73)).2.1, ((x127.getD x129.toNat (Ty.dflt Y73)).2.2.1, ((x127.getD x129.toNat (Ty.dflt Y73)).2.2.2.1, ((x127.getD x129.toNat (Ty.dflt Y73)).2.2.2.2.1, (true, (x127.getD x129.toNat (Ty.dflt Y73)).2.2.2.2.2.2))))))).length) (gd (x129.toNat < (x127.set x129.toNat ((x127.getD x129.toNat (Ty.dflt Y73)).1, ((x127.getD x129.toNat (Ty.dflt Y73)).2.1, ((x127.getD x129.toNat (Ty.dflt Y73)).2.2.1, ((x127.getD x129.toNat (Ty.dflt Y73)).2.2.2.1, ((x127.getD x129.toNat (Ty.dflt Y73)).2.2.2.2.1, (true, (x127.getD x129.toNat (Ty.dflt Y73)).2.2.2.2.2.2))))))).length) (F136_j1 N nx159 x129 (x127.set x129.toNat ((x127.getD x129.toNat (Ty.dflt Y73)).1, ((x127.getD x129.toNat (Ty.dflt Y73)).2.1, ((x127.getD x129.toNat (Ty.dflt Y73)).2.2.1, ((x127.getD x129.toNat (Ty.dflt Y73)).2.2.2.1, ((IntKind.i64.wrap (((x128 ++ ([(x127.getD x129.toNat (Ty.dflt Y73)).2.2.2.2.1])).length : Int) - (1 : Int))), (true, (x127.getD x129.toNat (Ty.dflt Y73)).2.2.2.2.2.2))))))) (x128 ++ ([(x127.getD x129.toNat (Ty.dflt Y73)).2.2.2.2.1]))))))))))))) (F136_j0 N x127 x128)
def F136_l0 (N : Nat) := loopF (F136_l0_b N) (fun _ _ _ => none)
theorem F136_l0_s N {k} (hk : 0 < k) x127 x128 x129 : F136_l0 N k x127 x128 x129 = F136_l0_b N (F136_l0 N (k - 1)) x127 x128 x129 := by cases k;cases hk;rfl
def F136 (N : Nat) (a0 : (List Z73)) : Option ((List Z73) × (List Int) × Bool) :=
  andO (F154 N a0) fun y2 => cond (!y2) (some ([], [], false)) (andO (F69 N a0) fun y3 => F136_l0 N N y3 ([]) (0 : Int))
theorem ok136 N a0 {r} (h : F136 N a0 = some r) : Con prog 136 [Vv (.sl Y73) a0] [.lf (.own Y73 r.1 .dp), .lf (.own (.int .i64) r.2.1 .dp), .lf (.v .bool r.2.2)] := by
 refine ctr [.lf (.own Y73 .dp), .lf (.own (.int .i64) .dp), .lf (.v .bool)] K func136 rfl fun w0 E0 ht => ?_
 unfold F136 at h
 show VW _ _ _ _ _ (retQ _ _ _ _) _
 refine nR K (tn 3) <| sq <| sq <| VW.region <| nG K 1 (tn 1) ?_
 obtain⟨y2,hy,h⟩:=aS h
 refine clc false [.t (.sl Y73)] [] (some 9) K (ok154 N _ hy) <| nN K (tn 1) ?_
 refine cnd h ?_ ?_<;>intro h
 ·refine nR K (tn 3) ?_
  cases h; exact VW.ret (rt [none, none])
 refine VW.skip <| sq <| VW.region <| nG K 1 (tn 1) ?_
 obtain⟨y3,hy,h⟩:=aS h
 refine clc false [.t (.sl Y73)] [] (some 12) K (ok69 N _ hy) <| nN K (tn 1) <| nR K (tn 2) ?_
 refine VW.join (fun s => ∃ x95 x96, s = ⟨[(5, hh 0), (6, hh 1)], [ar 0 Y73 x95 .dp, ar 0 (.int .i64) x96 .dp]⟩ ∧ F136_j0 N x95 x96 = some r) ?_ ?_
 ·refine nR K (tn 1) <| VW.block <| lop (fun k s => ∃ x127 x128 x129, s = ⟨[(5, hh 0), (6, hh 1), (7, I x129)], [ar 0 Y73 x127 .dp, ar 0 (.int .i64) x128 .dp]⟩ ∧ F136_l0 N k x127 x128 x129 = some r) N [.nilS 6 (.int .i64) .dp, .ren [5, 6, 7] [0, 1]] ⟨y3, [], (0 : Int), rfl, h⟩ ?_
  rintro k159 s ⟨x127, x128, x129, rfl, h⟩
  cases k159 with
  | zero => cases show none = some r from h
  | succ k159 =>
   replace h : F136_l0_b N (F136_l0 N k159) x127 x128 x129 = some r := h
   unfold F136_l0_b at h
   refine sq <| nR K (tn 4) ?_
   refine cnd h ?_ ?_<;>intro h
   ·refine VW.skip ?_
    refine VW.join (fun s => ∃ x173 x174, s = ⟨[(5, hh 0), (6, hh 1), (7, I x129)], [ar 0 Y73 x173 .dp, ar 0 (.int .i64) x174 .dp]⟩ ∧ F136_j1 N (F136_l0 N k159) x129 x173 x174 = some r) ?_ ?_
    ·refine VW.block <| sq <| sq <| VW.region ?_
     obtain⟨g179,h⟩:=gS h
     refine nG K 3 (pu 2 (an g179 (tn 0))) ?_
     obtain⟨g181,h⟩:=gS h
     obtain⟨y180,hy,h⟩:=aS h
     refine VO.peek (t := 74) (d1 := 23) (d2 := 24) (id := 0) (cur := 0) (i := x129.toNat) (f := 155) (l := []) (e := Y73) (xs := x127) K (by kernel_rfl) (by kernel_rfl) (by kernel_rfl) (by kernel_rfl) g181 (by kernel_rfl) (ok155 N _ hy) rfl <| nN K (tn 1) ?_
     refine cnd h ?_ ?_<;>intro h
     ·refine VW.exit ?_
      exact arv [.ren [5, 6, 7] [0, 1]] ⟨x127, x128, rfl, h⟩
     refine VW.skip ?_
     obtain⟨g182,h⟩:=gS h
     obtain⟨g183,h⟩:=gS h
     obtain⟨g184,h⟩:=gS h
     refine nR K (pu 3 (an g182 (pu 1 (an g183 (pu 1 (an g184 (tn 1))))))) ?_
     obtain⟨g185,h⟩:=gS h
     obtain⟨g186,h⟩:=gS h
     refine nR K (pu 2 (an g185 (pu 1 (an g186 (tn 0))))) <| VW.region ?_
     obtain⟨g187,h⟩:=gS h
     obtain⟨g188,h⟩:=gS h
     refine sG K 8 [5, 6, 7] [0, 1] ⟨[(5, hh 0), (6, hh 1), (7, I x129)], [ar 0 Y73 ((x127.set x129.toNat ((x127.getD x129.toNat D73).1, ((x127.getD x129.toNat D73).2.1, ((x127.getD x129.toNat D73).2.2.1, ((x127.getD x129.toNat D73).2.2.2.1, ((x127.getD x129.toNat D73).2.2.2.2.1, (true, (x127.getD x129.toNat D73).2.2.2.2.2.2))))))).set x129.toNat (((x127.set x129.toNat ((x127.getD x129.toNat D73).1, ((x127.getD x129.toNat D73).2.1, ((x127.getD x129.toNat D73).2.2.1, ((x127.getD x129.toNat D73).2.2.2.1, ((x127.getD x129.toNat D73).2.2.2.2.1, (true, (x127.getD x129.toNat D73).2.2.2.2.2.2))))))).getD x129.toNat D73).1, (((x127.set x129.toNat ((x127.getD x129.toNat D73).1, ((x127.getD x129.toNat D73).2.1, ((x127.getD x129.toNat D73).2.2.1, ((x127.getD x129.toNat D73).2.2.2.1, ((x127.getD x129.toNat D73).2.2.2.2.1, (true, (x127.getD x129.toNat D73).2.2.2.2.2.2))))))).getD x129.toNat D73).2.1, (((x127.set x129.toNat ((x127.getD x129.toNat D73).1, ((x127.getD x129.toNat D73).2.1, ((x127.getD x129.toNat D73).2.2.1, ((x127.getD x129.toNat D73).2.2.2.1, ((x127.getD x129.toNat D73).2.2.2.2.1, (true, (x127.getD x129.toNat D73).2.2.2.2.2.2))))))).getD x129.toNat D73).2.2.1, (((x127.set x129.toNat ((x127.getD x129.toNat D73).1, ((x127.getD x129.toNat D73).2.1, ((x127.getD x129.toNat D73).2.2.1, ((x127.getD x129.toNat D73).2.2.2.1, ((x127.getD x129.toNat D73).2.2.2.2.1, (true, (x127.getD x129.toNat D73).2.2.2.2.2.2))))))).getD x129.toNat D73).2.2.2.1, ((wr (((x128 ++ ([(x127.getD x129.toNat D73).2.2.2.2.1])).length : Int) - (1 : Int))), (((x127.set x129.toNat ((x127.getD x129.toNat D73).1, ((x127.getD x129.toNat D73).2.1, ((x127.getD x129.toNat D73).2.2.1, ((x127.getD x129.toNat D73).2.2.2.1, ((x127.getD x129.toNat D73).2.2.2.2.1, (true, (x127.getD x129.toNat D73).2.2.2.2.2.2))))))).getD x129.toNat D73).2.2.2.2.2.1, ((x127.set x129.toNat ((x127.getD x129.toNat D73).1, ((x127.getD x129.toNat D73).2.1, ((x127.getD x129.toNat D73).2.2.1, ((x127.getD x129.toNat D73).2.2.2.1, ((x127.getD x129.toNat D73).2.2.2.2.1, (true, (x127.getD x129.toNat D73).2.2.2.2.2.2))))))).getD x129.toNat D73).2.2.2.2.2.2))))))) .dp, ar 0 (.int .i64) (x128 ++ ([(x127.getD x129.toNat D73).2.2.2.2.1])) .dp]⟩ (pu 5 (an g187 (pu 1 (an g188 (tn 0))))) ?_
     rw [show ((x127.set x129.toNat ((x127.getD x129.toNat D73).1, ((x127.getD x129.toNat D73).2.1, ((x127.getD x129.toNat D73).2.2.1, ((x127.getD x129.toNat D73).2.2.2.1, ((x127.getD x129.toNat D73).2.2.2.2.1, (true, (x127.getD x129.toNat D73).2.2.2.2.2.2))))))).set x129.toNat (((x127.set x129.toNat ((x127.getD x129.toNat D73).1, ((x127.getD x129.toNat D73).2.1, ((x127.getD x129.toNat D73).2.2.1, ((x127.getD x129.toNat D73).2.2.2.1, ((x127.getD x129.toNat D73).2.2.2.2.1, (true, (x127.getD x129.toNat D73).2.2.2.2.2.2))))))).getD x129.toNat D73).1, (((x127.set x129.toNat ((x127.getD x129.toNat D73).1, ((x127.getD x129.toNat D73).2.1, ((x127.getD x129.toNat D73).2.2.1, ((x127.getD x129.toNat D73).2.2.2.1, ((x127.getD x129.toNat D73).2.2.2.2.1, (true, (x127.getD x129.toNat D73).2.2.2.2.2.2))))))).getD x129.toNat D73).2.1, (((x127.set x129.toNat ((x127.getD x129.toNat D73).1, ((x127.getD x129.toNat D73).2.1, ((x127.getD x129.toNat D73).2.2.1, ((x127.getD x129.toNat D73).2.2.2.1, ((x127.getD x129.toNat D73).2.2.2.2.1, (true, (x127.getD x129.toNat D73).2.2.2.2.2.2))))))).getD x129.toNat D73).2.2.1, (((x127.set x129.toNat ((x127.getD x129.toNat D73).1, ((x127.getD x129.toNat D73).2.1, ((x127.getD x129.toNat D73).2.2.1, ((x127.getD x129.toNat D73).2.2.2.1, ((x127.getD x129.toNat D73).2.2.2.2.1, (true, (x127.getD x129.toNat D73).2.2.2.2.2.2))))))).getD x129.toNat D73).2.2.2.1, ((wr (((x128 ++ ([(x127.getD x129.toNat D73).2.2.2.2.1])).length : Int) - (1 : Int))), (((x127.set x129.toNat ((x127.getD x129.toNat D73).1, ((x127.getD x129.toNat D73).2.1, ((x127.getD x129.toNat D73).2.2.1, ((x127.getD x129.toNat D73).2.2.2.1, ((x127.getD x129.toNat D73).2.2.2.2.1, (true, (x127.getD x129.toNat D73).2.2.2.2.2.2))))))).getD x129.toNat D73).2.2.2.2.2.1, ((x127.set x129.toNat ((x127.getD x129.toNat D73).1, ((x127.getD x129.toNat D73).2.1, ((x127.getD x129.toNat D73).2.2.1, ((x127.getD x129.toNat D73).2.2.2.1, ((x127.getD x129.toNat D73).2.2.2.2.1, (true, (x127.getD x129.toNat D73).2.2.2.2.2.2))))))).getD x129.toNat D73).2.2.2.2.2.2))))))) = (x127.set x129.toNat ((x127.getD x129.toNat D73).1, ((x127.getD x129.toNat D73).2.1, ((x127.getD x129.toNat D73).2.2.1, ((x127.getD x129.toNat D73).2.2.2.1, ((wr (((x128 ++ ([(x127.getD x129.toNat D73).2.2.2.2.1])).length : Int) - (1 : Int))), (true, (x127.getD x129.toNat D73).2.2.2.2.2.2))))))) from set_upd x127 x129.toNat ((x127.getD x129.toNat D73).1, ((x127.getD x129.toNat D73).2.1, ((x127.getD x129.toNat D73).2.2.1, ((x127.getD x129.toNat D73).2.2.2.1, ((x127.getD x129.toNat D73).2.2.2.2.1, (true, (x127.getD x129.toNat D73).2.2.2.2.2.2)))))) D73 (fun z => (z.1, (z.2.1, (z.2.2.1, (z.2.2.2.1, ((wr (((x128 ++ ([(x127.getD x129.toNat D73).2.2.2.2.1])).length : Int) - (1 : Int))), (z.2.2.2.2.2.1, z.2.2.2.2.2.2))))))) (by first | (simp; done) | simpa using g188)]
     refine sN K [5, 6, 7] [0, 1] ⟨[(5, hh 0), (6, hh 1), (7, I x129)], [ar 0 Y73 (x127.set x129.toNat ((x127.getD x129.toNat D73).1, ((x127.getD x129.toNat D73).2.1, ((x127.getD x129.toNat D73).2.2.1, ((x127.getD x129.toNat D73).2.2.2.1, ((wr (((x128 ++ ([(x127.getD x129.toNat D73).2.2.2.2.1])).length : Int) - (1 : Int))), (true, (x127.getD x129.toNat D73).2.2.2.2.2.2))))))) .dp, ar 0 (.int .i64) (x128 ++ ([(x127.getD x129.toNat D73).2.2.2.2.1])) .dp]⟩ (tn 0) ?_
     exact arv [.ren [5, 6, 7] [0, 1]] ⟨(x127.set x129.toNat ((x127.getD x129.toNat D73).1, ((x127.getD x129.toNat D73).2.1, ((x127.getD x129.toNat D73).2.2.1, ((x127.getD x129.toNat D73).2.2.2.1, ((wr (((x128 ++ ([(x127.getD x129.toNat D73).2.2.2.2.1])).length : Int) - (1 : Int))), (true, (x127.getD x129.toNat D73).2.2.2.2.2.2))))))), (x128 ++ ([(x127.getD x129.toNat D73).2.2.2.2.1])), rfl, h⟩
    rintro s ⟨x173, x174, rfl, h⟩
    unfold F136_j1 at h
    refine nE K (tn 3) ?_
    exact aro [.ren [5, 6, 7] [0, 1]] ⟨x173, x174, (wr (x129 + (1 : Int))), rfl, h⟩
   refine VW.exit ?_
   exact arv [.ren [5, 6] [0, 1]] ⟨x127, x128, rfl, h⟩
 rintro s ⟨x95, x96, rfl, h⟩
 unfold F136_j0 at h
 refine nR K (tn 5) ?_
 cases h; exact VW.ret (rt [some 0, some 1])
def F107_j0 (N : Nat) (a1 : (List Z73)) (x3 : (List Int)) (x4 : Int) (x5 : Int) : Option (Z102 × (List Z73)) :=
  some ((x3, (x4, x5)), a1)
def F107 (N : Nat) (a0 : Z102) (a1 : (List Z73)) : Option (Z102 × (List Z73)) :=
  andO (F67 N a0 (3 : Int)) fun y7 => cond y7.2 (andO (F136 N a1) fun y8 => cond y8.2.2 (some (y7.1, y8.1)) (F107_j0 N a1 y7.1.1 y7.1.2.1 y7.1.2.2)) (F107_j0 N a1 y7.1.1 y7.1.2.1 y7.1.2.2)
theorem ok107 N a0 a1 {r} (h : F107 N a0 a1 = some r) : ConM prog 107 [bx (lv Y102 a0) 103, ar 0 Y73 a1 .dp] [.lf (.ptr 0 0 0 0), hh 1] [.lf (.own Y73 r.2 .dp)] [bx (lv Y102 r.1) 103, none] := by
 refine ⟨enters_of func107 rfl (by decide), HM.intro [.lf (.own Y73 .dp)] K func107 rfl (Nat.le_of_ble_eq_true rfl) (Nat.le_of_ble_eq_true rfl) fun w0 E0 ht => ?_⟩
 unfold F107 at h
 show VW _ _ _ _ _ (retM _ _ _ _ _) _
 refine nR K (tn 1) ?_
 refine VW.join (fun s => ∃ x3 x4 x5, s = ⟨[(1, hh 0), (65536, .lf (.ptr 1 0 0 0))], [ar 0 Y73 a1 .dp, bx [.v (.sl (.int .u8)) x3, zi x4, zi x5] 103]⟩ ∧ F107_j0 N a1 x3 x4 x5 = some r) ?_ ?_
 ·refine sq <| VW.region <| nG K 1 (tn 1) ?_
  obtain⟨y7,hy,h⟩:=aS h
  refine VO.callM [0] [.r, .t (.int .i64)] (d := some 9) (by kernel_rfl) (by kernel_rfl) (ok67 N _ _ hy) (by kernel_rfl) <| nN K (tn 0) ?_
  refine cnd h ?_ ?_<;>intro h
  ·refine sq <| VW.region <| nG K 1 (tn 1) ?_
   obtain⟨y8,hy,h⟩:=aS h
   refine clc true [.t (.sl Y73)] [] (some 12) K (ok136 N _ hy) <| nN K (tn 7) <| nR K (tn 1) ?_
   refine cnd h ?_ ?_<;>intro h
   ·refine nR K (tn 2) ?_
    replace h := Option.some.inj h
    subst h
    refine VW.ghl [.ren [4, 65536] [0, 100001, 2]] (VW.ret ?_)
    exact ⟨[some 2], by kernel_rfl, by kernel_rfl, by kernel_rfl⟩
   refine VW.skip ?_
   exact arv [.ren [1, 65536] [1, 0]] ⟨y7.1.1, y7.1.2.1, y7.1.2.2, rfl, h⟩
  refine VW.skip ?_
  exact arv [.ren [1, 65536] [1, 0]] ⟨y7.1.1, y7.1.2.1, y7.1.2.2, rfl, h⟩
 rintro s ⟨x3, x4, x5, rfl, h⟩
 unfold F107_j0 at h
 refine nR K (tn 2) ?_
 replace h := Option.some.inj h
 subst h
 refine VW.ghl [.ren [4, 65536] [1, 100001, 0]] (VW.ret ?_)
 exact ⟨[some 2], by kernel_rfl, by kernel_rfl, by kernel_rfl⟩
def F108_j0 (N : Nat) (x560 : (List Z73)) (x561 : (List Int)) (x562 : Int) (x563 : Int) : Option (Z102 × (List Z73)) :=
  some ((x561, (x562, x563)), x560)
def F108_j1 (N : Nat) (nx846 : (List Int) → Int → Int → (List Z73) → Int → Int → Option (Z102 × (List Z73))) (x571 : Int) (x981 : (List Int)) (x982 : Int) (x983 : Int) (x984 : (List Z73)) (x985 : Int) : Option (Z102 × (List Z73)) :=
  nx846 x981 x982 x983 x984 x985 (IntKind.i64.wrap (x571 - (1 : Int)))
def F108_j2 (N : Nat) (nx846 : (List Int) → Int → Int → (List Z73) → Int → Int → Option (Z102 × (List Z73))) (x569 : (List Z73)) (x571 : Int) (x1049 : (List Int)) (x1050 : Int) (x1051 : Int) (x1052 : Int) (x1053 : Int) (x1054 : Int) (x1055 : Int) (x1056 : Int) (x1057 : (List Int)) : Option (Z102 × (List Z73)) :=
  andO (F92 N ([[(x1053, (ByteArray.empty, (x1054, (x1055, (x1056, (false, x1057))))))], x569])) fun y1058 => F108_j1 N nx846 x571 x1049 x1050 x1051 y1058 x1052
def F108_j3 (N : Nat) (nx846 : (List Int) → Int → Int → (List Z73) → Int → Int → Option (Z102 × (List Z73))) (x569 : (List Z73)) (x571 : Int) (x1088 : (List Int)) (x1089 : Int) (x1090 : Int) (x1091 : Int) (x1092 : (List Int)) : Option (Z102 × (List Z73)) :=
  F108_j2 N nx846 x569 x571 x1088 x1089 x1090 (x1092.length : Int) x1091 (0 : Int) (0 : Int) (0 : Int) x1092
def F108_l0_b (N : Nat) (nx846 : (List Int) → Int → Int → (List Z73) → Int → Int → Option (Z102 × (List Z73))) (x569 : (List Z73)) (x570 : Int) (x571 : Int) (nx1114 : (List Int) → Int → Int → Int → (List Int) → Int → Option (Z102 × (List Z73))) (x1104 : (List Int)) (x1105 : Int) (x1106 : Int) (x1107 : Int) (x1108 : (List Int)) (x1109 : Int) : Option (Z102 × (List Z73)) :=
  cond (decide (x1109 > (0 : Int))) (andO (F42 N (x1104, (x1105, x1106)) x570) fun y1117 => gd (x1108.length + ([y1117.2]).length ≤ lim (.int .i64)) (nx1114 y1117.1.1 y1117.1.2.1 y1117.1.2.2 x1107 (x1108 ++ ([y1117.2])) (IntKind.i64.wrap (x1109 - (1 : Int))))) (F108_j3 N nx846 x569 x571 x1104 x1105 x1106 x1107 x1108)
def F108_l0 (N : Nat) (nx846 : (List Int) → Int → Int → (List Z73) → Int → Int → Option (Z102 × (List Z73))) (x569 : (List Z73)) (x570 : Int) (x571 : Int) := loopF (F108_l0_b N nx846 x569 x570 x571) (fun _ _ _ _ _ _ => none)
theorem F108_l0_s N nx846 x569 x570 x571 {k} (hk : 0 < k) x1104 x1105 x1106 x1107 x1108 x1109 : F108_l0 N nx846 x569 x570 x571 k x1104 x1105 x1106 x1107 x1108 x1109 = F108_l0_b N nx846 x569 x570 x571 (F108_l0 N nx846 x569 x570 x571 (k - 1)) x1104 x1105 x1106 x1107 x1108 x1109 := by cases k;cases hk;rfl
def F108_l1_b (N : Nat) (nx846 : (List Int) → Int → Int → (List Z73) → Int → Int → Option (Z102 × (List Z73))) (x566 : (List Int)) (x567 : Int) (x568 : Int) (x569 : (List Z73)) (x570 : Int) (x571 : Int) : Option (Z102 × (List Z73)) :=
  cond (decide (x571 > (0 : Int))) (andO (F76 N (x566, (x567, x568)) ([(1 : Int), (1 : Int), (1 : Int), (2 : Int), (5 : Int), (6 : Int), (7 : Int)])) fun y987 => cond (y987.2 == (1 : Int)) (andO (F42 N y987.1 x570) fun y1060 => andO (F42 N y1060.1 (4 : Int)) fun y1061 => cond (y1061.2 != (3 : Int)) (andO (F42 N y1061.1 (6 : Int)) fun y1062 => F108_j2 N nx846 x569 x571 y1062.1.1 y1062.1.2.1 y1062.1.2.2 x570 y987.2 y1060.2 y1061.2 y1062.2 ([])) (F108_j2 N nx846 x569 x571 y1061.1.1 y1061.1.2.1 y1061.1.2.2 x570 y987.2 y1060.2 y1061.2 (0 : Int) ([]))) (cond (y987.2 == (2 : Int)) (andO (F42 N y987.1 (3 : Int)) fun y1094 => F108_l0 N nx846 x569 x570 x571 N y1094.1.1 y1094.1.2.1 y1094.1.2.2 y987.2 ([]) (IntKind.i64.wrap ((1 : Int) + y1094.2))) (cond (y987.2 == (5 : Int)) (andO (F42 N y987.1 x570) fun y1119 => F108_j2 N nx846 x569 x571 y1119.1.1 y1119.1.2.1 y1119.1.2.2 x570 y987.2 y1119.2 (0 : Int) (0 : Int) ([])) (cond (y987.2 == (6 : Int)) (andO (F42 N y987.1 (5 : Int)) fun y1120 => F108_j2 N nx846 x569 x571 y1120.1.1 y1120.1.2.1 y1120.1.2.2 x570 y987.2 (0 : Int) (0 : Int) y1120.2 ([])) (F108_j2 N nx846 x569 x571 y987.1.1 y987.1.2.1 y987.1.2.2 x570 y987.2 (0 : Int) (0 : Int) (0 : Int) ([])))))) (F108_j0 N x569 x566 x567 x568)
def F108_l1 (N : Nat) := loopF (F108_l1_b N) (fun _ _ _ _ _ _ => none)
theorem F108_l1_s N {k} (hk : 0 < k) x566 x567 x568 x569 x570 x571 : F108_l1 N k x566 x567 x568 x569 x570 x571 = F108_l1_b N (F108_l1 N (k - 1)) x566 x567 x568 x569 x570 x571 := by cases k;cases hk;rfl
def F108 (N : Nat) (a0 : Z102) (a1 : (List Int)) : Option (Z102 × (List Z73)) :=
  andO (F115 N a1 (5 : Int)) fun y1 => andO (F42 N a0 y1) fun y2 => andO (F43 N y2.1 (IntKind.i64.wrap ((1 : Int) + y2.2))) fun y3 => andO (F42 N y3.1 (4 : Int)) fun y565 => F108_l1 N N y565.1.1 y565.1.2.1 y565.1.2.2 y3.2.1 y3.2.2 (IntKind.i64.wrap ((1 : Int) + y565.2))
theorem ok108 N a0 a1 {r} (h : F108 N a0 a1 = some r) : ConM prog 108 [bx (lv Y102 a0) 103] [.lf (.ptr 0 0 0 0), Vv (.sl (.int .u8)) a1] [.lf (.own Y73 r.2 .dp)] [bx (lv Y102 r.1) 103] := by
 refine ⟨enters_of func108 rfl (by decide), HM.intro [.lf (.own Y73 .dp)] K func108 rfl (Nat.le_of_ble_eq_true rfl) (Nat.le_of_ble_eq_true rfl) fun w0 E0 ht => ?_⟩
 unfold F108 at h
 show VW _ _ _ _ _ (retM _ _ _ _ _) _
 refine nR K (tn 1) <| sq <| VW.region <| nG K 3 (tn 3) ?_
 obtain⟨y1,hy,h⟩:=aS h
 refine clc false [.t (.sl (.int .u8)), .t (.int .i64)] [] (some 14) K (ok115 N _ _ hy) ?_
 obtain⟨y2,hy,h⟩:=aS h
 refine VO.callM [0] [.r, .t (.int .i64)] (d := some 15) (by kernel_rfl) (by kernel_rfl) (ok42 N _ _ hy) (by kernel_rfl) <| nG K 1 (tn 1) ?_
 obtain⟨y3,hy,h⟩:=aS h
 refine VO.callM [0] [.r, .t (.int .i64)] (d := some 17) (by kernel_rfl) (by kernel_rfl) (ok43 N _ _ hy) (by kernel_rfl) <| nN K (tn 5) ?_
 refine VW.join (fun s => ∃ x560 x561 x562 x563, s = ⟨[(5, hh 0), (65536, .lf (.ptr 1 0 0 0))], [ar 0 Y73 x560 .dp, bx [.v (.sl (.int .u8)) x561, zi x562, zi x563] 103]⟩ ∧ F108_j0 N x560 x561 x562 x563 = some r) ?_ ?_
 ·refine sq <| VW.region <| nG K 1 (tn 1) ?_
  obtain⟨y565,hy,h⟩:=aS h
  refine VO.callM [0] [.r, .t (.int .i64)] (d := some 21) (by kernel_rfl) (by kernel_rfl) (ok42 N _ _ hy) (by kernel_rfl) <| nN K (tn 2) <| VW.block <| lop (fun k s => ∃ x566 x567 x568 x569 x570 x571, s = ⟨[(0, .lf (.ptr 0 0 0 0)), (5, hh 1), (6, I x570), (7, I x571), (65536, .lf (.ptr 0 0 0 0))], [bx [.v (.sl (.int .u8)) x566, zi x567, zi x568] 103, ar 0 Y73 x569 .dp]⟩ ∧ F108_l1 N k x566 x567 x568 x569 x570 x571 = some r) N [.ren [0, 5, 6, 7, 65536] [0, 1]] ⟨y565.1.1, y565.1.2.1, y565.1.2.2, y3.2.1, y3.2.2, (wr ((1 : Int) + y565.2)), rfl, h⟩ ?_
  rintro k846 s ⟨x566, x567, x568, x569, x570, x571, rfl, h⟩
  cases k846 with
  | zero => cases show none = some r from h
  | succ k846 =>
   replace h : F108_l1_b N (F108_l1 N k846) x566 x567 x568 x569 x570 x571 = some r := h
   unfold F108_l1_b at h
   refine sq <| nR K (tn 2) ?_
   refine cnd h ?_ ?_<;>intro h
   ·refine VW.skip ?_
    refine VW.join (fun s => ∃ x981 x982 x983 x984 x985, s = ⟨[(0, .lf (.ptr 0 0 0 0)), (5, hh 1), (6, I x985), (7, I x571), (65536, .lf (.ptr 0 0 0 0))], [bx [.v (.sl (.int .u8)) x981, zi x982, zi x983] 103, ar 0 Y73 x984 .dp]⟩ ∧ F108_j1 N (F108_l1 N k846) x571 x981 x982 x983 x984 x985 = some r) ?_ ?_
    ·refine VW.block <| sq <| VW.region <| nG K 2 (tn 2) ?_
     obtain⟨y987,hy,h⟩:=aS h
     refine VO.ghl [.frz 2] <| VO.callM [0] [.r, .t (.sl (.int .i64))] (d := some 29) (by kernel_rfl) (by kernel_rfl) (ok76 N _ _ hy) (by kernel_rfl) <| nN K (tn 3) ?_
     refine VW.join (fun s => ∃ x1049 x1050 x1051 x1052 x1053 x1054 x1055 x1056 x1057, s = ⟨[(0, .lf (.ptr 0 0 0 0)), (5, hh 1), (6, I x1052), (7, I x571), (8, .lf (.ptr 2 0 0 0)), (65536, .lf (.ptr 0 0 0 0))], [bx [.v (.sl (.int .u8)) x1049, zi x1050, zi x1051] 103, ar 0 Y73 x569 .dp, bx [zi x1053, zs ByteArray.empty, zi x1054, zi x1055, zi x1056, zb false, .hd 3 0 none] 74, ar 0 (.int .i64) x1057 .dp]⟩ ∧ F108_j2 N (F108_l1 N k846) x569 x571 x1049 x1050 x1051 x1052 x1053 x1054 x1055 x1056 x1057 = some r) ?_ ?_
     ·refine nR K (tn 2) <| VW.block <| nR K (tn 2) ?_
      refine cnd h ?_ ?_<;>intro h
      ·refine sq <| VW.region <| nG K 2 (tn 2) ?_
       obtain⟨y1060,hy,h⟩:=aS h
       refine VO.callM [0] [.r, .t (.int .i64)] (d := some 37) (by kernel_rfl) (by kernel_rfl) (ok42 N _ _ hy) (by kernel_rfl) <| nN K (tn 2) <| sq <| VW.region <| nG K 1 (tn 1) ?_
       obtain⟨y1061,hy,h⟩:=aS h
       refine VO.callM [0] [.r, .t (.int .i64)] (d := some 40) (by kernel_rfl) (by kernel_rfl) (ok42 N _ _ hy) (by kernel_rfl) <| nN K (tn 2) <| nR K (tn 3) ?_
       refine cnd h ?_ ?_<;>intro h
       ·refine VW.region <| nG K 1 (tn 1) ?_
        obtain⟨y1062,hy,h⟩:=aS h
        refine VO.callM [0] [.r, .t (.int .i64)] (d := some 46) (by kernel_rfl) (by kernel_rfl) (ok42 N _ _ hy) (by kernel_rfl) <| nN K (tn 2) ?_
        exact arv [.nil 3 6 (.int .i64) .dp, .ren [0, 5, 6, 7, 8, 65536] [0, 1, 3, 4]] ⟨y1062.1.1, y1062.1.2.1, y1062.1.2.2, x570, y987.2, y1060.2, y1061.2, y1062.2, [], rfl, h⟩
       refine VW.skip ?_
       exact arv [.nil 3 6 (.int .i64) .dp, .ren [0, 5, 6, 7, 8, 65536] [0, 1, 3, 4]] ⟨y1061.1.1, y1061.1.2.1, y1061.1.2.2, x570, y987.2, y1060.2, y1061.2, (0 : Int), [], rfl, h⟩
      refine nR K (tn 2) ?_
      refine cnd h ?_ ?_<;>intro h
      ·refine VW.join (fun s => ∃ x1088 x1089 x1090 x1091 x1092, s = ⟨[(0, .lf (.ptr 0 0 0 0)), (5, hh 1), (7, I x571), (8, .lf (.ptr 2 0 0 0)), (65536, .lf (.ptr 0 0 0 0))], [bx [.v (.sl (.int .u8)) x1088, zi x1089, zi x1090] 103, ar 0 Y73 x569 .dp, bx [zi x1091, zs ByteArray.empty, zi (0 : Int), zi (0 : Int), zi (0 : Int), zb false, .hd 3 0 none] 74, ar 0 (.int .i64) x1092 .dp]⟩ ∧ F108_j3 N (F108_l1 N k846) x569 x571 x1088 x1089 x1090 x1091 x1092 = some r) ?_ ?_
       ·refine sq <| VW.region <| nG K 1 (tn 1) ?_
        obtain⟨y1094,hy,h⟩:=aS h
        refine VO.callM [0] [.r, .t (.int .i64)] (d := some 51) (by kernel_rfl) (by kernel_rfl) (ok42 N _ _ hy) (by kernel_rfl) <| nN K (tn 2) <| VW.block <| lop (fun k s => ∃ x1104 x1105 x1106 x1107 x1108 x1109, s = ⟨[(0, .lf (.ptr 0 0 0 0)), (5, hh 1), (6, I x570), (7, I x571), (8, .lf (.ptr 2 0 0 0)), (9, I x1109), (65536, .lf (.ptr 0 0 0 0))], [bx [.v (.sl (.int .u8)) x1104, zi x1105, zi x1106] 103, ar 0 Y73 x569 .dp, bx [zi x1107, zs ByteArray.empty, zi (0 : Int), zi (0 : Int), zi (0 : Int), zb false, .hd 3 0 none] 74, ar 0 (.int .i64) x1108 .dp]⟩ ∧ F108_l0 N (F108_l1 N k846) x569 x570 x571 k x1104 x1105 x1106 x1107 x1108 x1109 = some r) N [.nil 3 6 (.int .i64) .dp, .ren [0, 5, 6, 7, 8, 9, 65536] [0, 1, 3, 4]] ⟨y1094.1.1, y1094.1.2.1, y1094.1.2.2, y987.2, [], (wr ((1 : Int) + y1094.2)), rfl, h⟩ ?_
        rintro k1114 s ⟨x1104, x1105, x1106, x1107, x1108, x1109, rfl, h⟩
        cases k1114 with
        | zero => cases show none = some r from h
        | succ k1114 =>
         replace h : F108_l0_b N (F108_l1 N k846) x569 x570 x571 (F108_l0 N (F108_l1 N k846) x569 x570 x571 k1114) x1104 x1105 x1106 x1107 x1108 x1109 = some r := h
         unfold F108_l0_b at h
         refine sq <| nR K (tn 2) ?_
         refine cnd h ?_ ?_<;>intro h
         ·refine VW.skip <| sq <| VW.block <| VW.ghl [.ren [0, 5, 6, 7, 8, 9, 65536] [0, 1, 2, 3]] ?_
          obtain⟨y1117,hy1117,h⟩:=aS h
          obtain⟨g1118,h⟩:=gS h
          refine VW.drawn (by kernel_rfl) [some (57, .lf (.ptr 2 0 0 6)), some (58, hh 3), some (59, .lf (.ptr 0 0 0 0)), some (60, I x570), some (61, I y1117.2), some (62, hh 4), some (63, .lf (.hd 3 1 none)), some (64, .lf (.ptr 2 0 0 6)), none] [4, 5, 6, 8] [[bx [.v (.sl (.int .u8)) x1104, zi x1105, zi x1106] 103, ar 0 Y73 x569 .dp, bx [zi x1107, zs ByteArray.empty, zi (0 : Int), zi (0 : Int), zi (0 : Int), zb false, .hd 3 0 none] 74, ar 0 (.int .i64) x1108 .dp], [bx (lv Y102 y1117.1) 103, ar 0 Y73 x569 .dp, bx [zi x1107, zs ByteArray.empty, zi (0 : Int), zi (0 : Int), zi (0 : Int), zb false, .hd 3 0 none] 74, ar 0 (.int .i64) x1108 .dp], [bx (lv Y102 y1117.1) 103, ar 0 Y73 x569 .dp, bx [zi x1107, zs ByteArray.empty, zi (0 : Int), zi (0 : Int), zi (0 : Int), zb false, .hd 3 0 none] 74, ar 0 (.int .i64) x1108 .dp, ar 0 (.int .i64) ([y1117.2]) .dp], [bx (lv Y102 y1117.1) 103, ar 0 Y73 x569 .dp, bx [zi x1107, zs ByteArray.empty, zi (0 : Int), zi (0 : Int), zi (0 : Int), zb false, .hd 3 0 none] 74, ar 1 (.int .i64) (x1108 ++ ([y1117.2])) .dp, ar 0 (.int .i64) ([y1117.2]) .dp], [bx (lv Y102 y1117.1) 103, ar 0 Y73 x569 .dp, bx [zi x1107, zs ByteArray.empty, zi (0 : Int), zi (0 : Int), zi (0 : Int), zb false, .hd 3 1 none] 74, ar 1 (.int .i64) (x1108 ++ ([y1117.2])) .dp, ar 0 (.int .i64) ([y1117.2]) .dp]] [(0, 0), (0, 1), (0, 2), (0, 3), (1, 0), (1, 1), (1, 2), (2, 0), (3, 0), (4, 0), (5, 1), (6, 2), (7, 3), (8, 3)] [0, 5, 6, 7, 8, 9, 65536] [0, 1, 2, 3] (s' := ⟨[(0, .lf (.ptr 0 0 0 0)), (5, hh 1), (6, I x570), (7, I x571), (8, .lf (.ptr 2 0 0 0)), (9, I x1109), (65536, .lf (.ptr 0 0 0 0))], [bx (lv Y102 y1117.1) 103, ar 0 Y73 x569 .dp, bx [zi x1107, zs ByteArray.empty, zi (0 : Int), zi (0 : Int), zi (0 : Int), zb false, .hd 3 0 none] 74, ar 0 (.int .i64) (x1108 ++ ([y1117.2])) .dp]⟩) (by kernel_rfl) (by kernel_rfl) ⟨qT K,
    qT K,
    qT K,
    qT K,
    qT K,
    qT K,
    qT K,
    qT K,
    qT K,
    ⟨_, rfl, Stp.eq (Stp.callM [0] [.r, .t (.int .i64)] (d := some 61) (by kernel_rfl) (by kernel_rfl) (ok42 N _ _ hy1117) (by kernel_rfl)) (by kernel_rfl) (by kernel_rfl)⟩,
    qT K,
    ⟨_, rfl, Stp.ev K (m := .dp) (φ := x1108.length + ([y1117.2]).length ≤ lim (.int .i64)) (by kernel_rfl) g1118⟩,
    qT K,
    qT K, trivial⟩ (by kernel_rfl) ?_
          refine nE K (tn 3) ?_
          exact aro [.ren [0, 5, 6, 7, 8, 9, 65536] [0, 1, 2, 3]] ⟨y1117.1.1, y1117.1.2.1, y1117.1.2.2, x1107, (x1108 ++ ([y1117.2])), (wr (x1109 - (1 : Int))), rfl, h⟩
         refine VW.exit ?_
         exact arv [.ren [0, 5, 7, 8, 65536] [0, 1, 2, 3]] ⟨x1104, x1105, x1106, x1107, x1108, rfl, h⟩
       rintro s ⟨x1088, x1089, x1090, x1091, x1092, rfl, h⟩
       unfold F108_j3 at h
       refine nE K (tn 4) ?_
       exact arv [.ren [0, 5, 6, 7, 8, 65536] [0, 1, 2, 3]] ⟨x1088, x1089, x1090, (x1092.length : Int), x1091, (0 : Int), (0 : Int), (0 : Int), x1092, rfl, h⟩
      refine nR K (tn 2) ?_
      refine cnd h ?_ ?_<;>intro h
      ·refine VW.region <| nG K 2 (tn 2) ?_
       obtain⟨y1119,hy,h⟩:=aS h
       refine VO.callM [0] [.r, .t (.int .i64)] (d := some 72) (by kernel_rfl) (by kernel_rfl) (ok42 N _ _ hy) (by kernel_rfl) <| nN K (tn 2) ?_
       exact arv [.nil 3 6 (.int .i64) .dp, .ren [0, 5, 6, 7, 8, 65536] [0, 1, 3, 4]] ⟨y1119.1.1, y1119.1.2.1, y1119.1.2.2, x570, y987.2, y1119.2, (0 : Int), (0 : Int), [], rfl, h⟩
      refine nR K (tn 2) ?_
      refine cnd h ?_ ?_<;>intro h
      ·refine VW.region <| nG K 1 (tn 1) ?_
       obtain⟨y1120,hy,h⟩:=aS h
       refine VO.callM [0] [.r, .t (.int .i64)] (d := some 77) (by kernel_rfl) (by kernel_rfl) (ok42 N _ _ hy) (by kernel_rfl) <| nN K (tn 2) ?_
       exact arv [.nil 3 6 (.int .i64) .dp, .ren [0, 5, 6, 7, 8, 65536] [0, 1, 3, 4]] ⟨y1120.1.1, y1120.1.2.1, y1120.1.2.2, x570, y987.2, (0 : Int), (0 : Int), y1120.2, [], rfl, h⟩
      refine VW.skip ?_
      exact arv [.nil 3 6 (.int .i64) .dp, .ren [0, 5, 6, 7, 8, 65536] [0, 1, 3, 4]] ⟨y987.1.1, y987.1.2.1, y987.1.2.2, x570, y987.2, (0 : Int), (0 : Int), (0 : Int), [], rfl, h⟩
     rintro s ⟨x1049, x1050, x1051, x1052, x1053, x1054, x1055, x1056, x1057, rfl, h⟩
     unfold F108_j2 at h
     refine VW.region <| nG K 1 (tn 1) <| VO.litA (d := 80) (v := hh 4) (H' := [bx [.v (.sl (.int .u8)) x1049, zi x1050, zi x1051] 103, ar 0 Y73 x569 .dp, bx [zi x1053, zs ByteArray.empty, zi x1054, zi x1055, zi x1056, zb false, .hd 3 0 none] 74, none, ar 0 Y73 ([(x1053, (ByteArray.empty, (x1054, (x1055, (x1056, (false, x1057))))))]) .dp]) K (by kernel_rfl) <| nG K 1 (tn 1) <| VO.ghl [.frz 4, .frz 1] ?_
     refine nG K 1 (tn 1) ?_
     obtain⟨y1058,hy,h⟩:=aS h
     refine clc true [.t (.sl (.sl Y73))] [] (some 83) K (ok92 N _ hy) <| nN K (tn 1) ?_
     exact arv [.ren [0, 5, 6, 7, 65536] [0, 6]] ⟨x1049, x1050, x1051, y1058, x1052, rfl, h⟩
    rintro s ⟨x981, x982, x983, x984, x985, rfl, h⟩
    unfold F108_j1 at h
    refine nE K (tn 3) ?_
    exact aro [.ren [0, 5, 6, 7, 65536] [0, 1]] ⟨x981, x982, x983, x984, x985, (wr (x571 - (1 : Int))), rfl, h⟩
   refine VW.exit ?_
   exact arv [.ren [5, 65536] [1, 0]] ⟨x569, x566, x567, x568, rfl, h⟩
 rintro s ⟨x560, x561, x562, x563, rfl, h⟩
 unfold F108_j0 at h
 refine nR K (tn 2) ?_
 replace h := Option.some.inj h
 subst h
 refine VW.ghl [.ren [4, 65536] [1, 0]] (VW.ret ?_)
 exact ⟨[some 1], by kernel_rfl, by kernel_rfl, by kernel_rfl⟩
def F66_j0 (N : Nat) (x8 : (List Z77)) (x13 : (List Int)) (x14 : Int) (x15 : Int) (x16 : (List Z73)) : Option (Z102 × (List Z77) × (List Z73)) :=
  some ((x13, (x14, x15)), x8, x16)
def F66_j1 (N : Nat) (a0 : (List Int)) (x5 : (List Int)) (x6 : Int) (x7 : Int) (x8 : (List Z77)) : Option (Z102 × (List Z77) × (List Z73)) :=
  andO (F108 N (x5, (x6, x7)) a0) fun y9 => andO (F107 N y9.1 y9.2) fun y10 => andO (F67 N y10.1 (15 : Int)) fun y18 => cond y18.2 (andO (F44 N y18.1 y10.2) fun y19 => F66_j0 N x8 y19.1.1 y19.1.2.1 y19.1.2.2 y19.2) (F66_j0 N x8 y18.1.1 y18.1.2.1 y18.1.2.2 y10.2)
def F66 (N : Nat) (a0 : (List Int)) : Option (Z102 × (List Z77) × (List Z73)) :=
  andO (F34 N a0) fun y1 => andO (F75 N ) fun y2 => andO (F67 N y1 (15 : Int)) fun y21 => cond y21.2 (andO (F35 N y21.1) fun y22 => F66_j1 N a0 y22.1.1 y22.1.2.1 y22.1.2.2 y22.2) (F66_j1 N a0 y21.1.1 y21.1.2.1 y21.1.2.2 y2)
theorem ok66 N a0 {r} (h : F66 N a0 = some r) : ConB3 prog 66 [Vv (.sl (.int .u8)) a0] [.v (.sl (.int .u8)) r.1.1, .v (.int .i64) r.1.2.1, .v (.int .i64) r.1.2.2] 103 (.v (.sl Y77) r.2.1) (.v (.sl Y73) r.2.2) := by
 refine ⟨enters_of func66 rfl (by decide), by kernel_rfl, rfl, rfl, HB3.intro (d := 2) (d1 := 3) (d2 := 4) func66 rfl (Nat.le_of_ble_eq_true rfl) (Nat.le_of_ble_eq_true rfl) rfl (by kernel_rfl) rfl rfl fun w0 E0 ht => ?_⟩
 unfold F66 at h
 show VW _ _ _ _ _ (retB3 _ _ _ _ _ _ _) _
 refine nR K (tn 3) <| sq <| VW.region <| nG K 1 (tn 1) ?_
 obtain⟨y1,hy,h⟩:=aS h
 refine VO.callB [.t (.sl (.int .u8))] (d := 9) (by kernel_rfl) (ok34 N _ hy) <| nN K (tn 1) <| sq <| VW.region ?_
 obtain⟨y2,hy,h⟩:=aS h
 refine clc false [] [] (some 10) K (ok75 N  hy) <| nN K (tn 1) ?_
 refine VW.join (fun s => ∃ x5 x6 x7 x8, s = ⟨[(0, Vv (.sl (.int .u8)) a0), (5, .lf (.ptr 0 0 0 0)), (6, hh 1)], [bx [.v (.sl (.int .u8)) x5, zi x6, zi x7] 103, ar 0 Y77 x8 .dp]⟩ ∧ F66_j1 N a0 x5 x6 x7 x8 = some r) ?_ ?_
 ·refine sq <| VW.region <| nG K 1 (tn 1) ?_
  obtain⟨y21,hy,h⟩:=aS h
  refine VO.callM [0] [.r, .t (.int .i64)] (d := some 12) (by kernel_rfl) (by kernel_rfl) (ok67 N _ _ hy) (by kernel_rfl) <| nN K (tn 0) ?_
  refine cnd h ?_ ?_<;>intro h
  ·refine VW.region <| nG K 1 (tn 1) ?_
   obtain⟨y22,hy,h⟩:=aS h
   refine VO.callM [0] [.r] (d := some 14) (by kernel_rfl) (by kernel_rfl) (ok35 N _ hy) (by kernel_rfl) <| nN K (tn 1) ?_
   exact arv [.ren [0, 5, 6] [0, 2]] ⟨y22.1.1, y22.1.2.1, y22.1.2.2, y22.2, rfl, h⟩
  refine VW.skip ?_
  exact arv [.ren [0, 5, 6] [0, 1]] ⟨y21.1.1, y21.1.2.1, y21.1.2.2, y2, rfl, h⟩
 rintro s ⟨x5, x6, x7, x8, rfl, h⟩
 unfold F66_j1 at h
 refine sq <| VW.region <| nG K 3 (tn 3) ?_
 obtain⟨y9,hy,h⟩:=aS h
 refine VO.callM [0] [.r, .t (.sl (.int .u8))] (d := some 18) (by kernel_rfl) (by kernel_rfl) (ok108 N _ _ hy) (by kernel_rfl) ?_
 obtain⟨y10,hy,h⟩:=aS h
 refine VO.callM [0, 2] [.r, .t (.sl Y73)] (d := some 19) (by kernel_rfl) (by kernel_rfl) (ok107 N _ _ hy) (by kernel_rfl) <| nN K (tn 1) ?_
 refine VW.join (fun s => ∃ x13 x14 x15 x16, s = ⟨[(5, .lf (.ptr 0 0 0 0)), (6, hh 1), (7, hh 2)], [bx [.v (.sl (.int .u8)) x13, zi x14, zi x15] 103, ar 0 Y77 x8 .dp, ar 0 Y73 x16 .tp]⟩ ∧ F66_j0 N x8 x13 x14 x15 x16 = some r) ?_ ?_
 ·refine sq <| VW.region <| nG K 1 (tn 1) ?_
  obtain⟨y18,hy,h⟩:=aS h
  refine VO.callM [0] [.r, .t (.int .i64)] (d := some 21) (by kernel_rfl) (by kernel_rfl) (ok67 N _ _ hy) (by kernel_rfl) <| nN K (tn 0) ?_
  refine cnd h ?_ ?_<;>intro h
  ·refine VW.region <| nG K 2 (tn 2) ?_
   obtain⟨y19,hy,h⟩:=aS h
   refine VO.callM [0, 3] [.r, .t (.sl Y73)] (d := some 24) (by kernel_rfl) (by kernel_rfl) (ok44 N _ _ hy) (by kernel_rfl) <| nN K (tn 1) ?_
   exact arv [.ren [5, 6, 7] [0, 1, 4]] ⟨y19.1.1, y19.1.2.1, y19.1.2.2, y19.2, rfl, h⟩
  refine VW.skip ?_
  exact arv [.wk 3, .ren [5, 6, 7] [0, 1, 3]] ⟨y18.1.1, y18.1.2.1, y18.1.2.2, y10.2, rfl, h⟩
 rintro s ⟨x13, x14, x15, x16, rfl, h⟩
 unfold F66_j0 at h
 refine nR K (tn 6) ?_
 replace h := Option.some.inj h
 subst h
 refine VW.ghl [.frz 1, .frz 2] (VW.ret ?_)
 exact ⟨0, 0, by kernel_rfl, by kernel_rfl, by kernel_rfl, by kernel_rfl⟩
def F25 (N : Nat) (a0 : (List Z77)) (a1 : (List Z73)) : Option (Bool) :=
  andO (F8 N a0 a1) fun y1 => some (y1 != (-1 : Int))
theorem ok25 N a0 a1 {r} (h : F25 N a0 a1 = some r) : Con prog 25 [Vv (.sl Y77) a0, Vv (.sl Y73) a1] [.lf (.v .bool r)] := by
 refine ctr [.lf (.v .bool)] K func25 rfl fun w0 E0 ht => ?_
 unfold F25 at h
 show VW _ _ _ _ _ (retQ _ _ _ _) _
 refine nR K (tn 1) <| sq <| VW.region <| nG K 2 (tn 2) ?_
 obtain⟨y1,hy,h⟩:=aS h
 refine clc false [.t (.sl Y77), .t (.sl Y73)] [] (some 7) K (ok8 N _ _ hy) <| nN K (tn 2) ?_
 cases h; exact VW.ret (rt [])
def F111 (N : Nat) (a0 : Int) : Option (Int × Int) :=
  gd (InR a0 ([(1 : Int), (1 : Int), (6 : Int), (5 : Int), (1 : Int), (1 : Int), (1 : Int), (7 : Int), (2 : Int), (6 : Int), (1 : Int), (7 : Int)]).length) (gd (a0.toNat < ([(1 : Int), (1 : Int), (6 : Int), (5 : Int), (1 : Int), (1 : Int), (1 : Int), (7 : Int), (2 : Int), (6 : Int), (1 : Int), (7 : Int)]).length) (gd (InR a0 ([(1 : Int), (5 : Int), (6 : Int), (5 : Int), (4 : Int), (3 : Int), (3 : Int), (7 : Int), (2 : Int), (2 : Int), (2 : Int), (5 : Int)]).length) (gd (a0.toNat < ([(1 : Int), (5 : Int), (6 : Int), (5 : Int), (4 : Int), (3 : Int), (3 : Int), (7 : Int), (2 : Int), (2 : Int), (2 : Int), (5 : Int)]).length) (some ((([(1 : Int), (1 : Int), (6 : Int), (5 : Int), (1 : Int), (1 : Int), (1 : Int), (7 : Int), (2 : Int), (6 : Int), (1 : Int), (7 : Int)]).getD a0.toNat (Ty.dflt (.int .i64))), (([(1 : Int), (5 : Int), (6 : Int), (5 : Int), (4 : Int), (3 : Int), (3 : Int), (7 : Int), (2 : Int), (2 : Int), (2 : Int), (5 : Int)]).getD a0.toNat (Ty.dflt (.int .i64))))))))
theorem ok111 N a0 {r} (h : F111 N a0 = some r) : Con prog 111 [I a0] [.lf (.v (.int .i64) r.1), .lf (.v (.int .i64) r.2)] := by
 refine ctr [.lf (.v (.int .i64)), .lf (.v (.int .i64))] K func111 rfl fun w0 E0 ht => ?_
 unfold F111 at h
 show VW _ _ _ _ _ (retQ _ _ _ _) _
 refine nR K (tn 2) <| nR K (tn 2) <| nR K (tn 2) <| sq ?_
 obtain⟨g1,h⟩:=gS h
 obtain⟨g2,h⟩:=gS h
 obtain⟨g3,h⟩:=gS h
 obtain⟨g4,h⟩:=gS h
 refine dr K [] [] [] [2, 3] [] (pu 2 (an g1 (an g2 (pu 2 (an g3 (an g4 (tn 2))))))) trivial ?_
 cases h; exact VW.ret (rt [])
def F112_j0 (N : Nat) (x77 : Int) (x78 : ByteArray) (x79 : Int) (x80 : Int) (x81 : Int) (x82 : Bool) (x83 : (List Int)) (x84 : Int) (x85 : ByteArray) (x86 : Int) (x87 : Int) (x88 : Int) (x89 : Bool) (x90 : (List Int)) (x91 : (List (List Z73))) : Option ((List Z73) × Bool) :=
  gd (InR x79 x90.length) (gd (InR (0 : Int) x91.length) (gd ((0 : Int).toNat < x91.length) (andO (F92 N ([[(x84, (x85, (x86, (x87, (x88, (x89, x90))))))], [(x77, (x78, ((x90.getD x79.toNat (Ty.dflt (.int .i64))), (x80, (x81, (x82, x83))))))], (x91.getD ((0 : Int).toNat) (Ty.dflt (.sl Y73)))])) fun y183 => some (y183, true))))
def F112_j1 (N : Nat) (x84 : Int) (x85 : ByteArray) (x86 : Int) (x87 : Int) (x89 : Bool) (x90 : (List Int)) (x91 : (List (List Z73))) (x189 : Int) : Option ((List Z73) × Bool) :=
  gd (InR (0 : Int) x91.length) (gd ((0 : Int).toNat < x91.length) (andO (F92 N ([[(x84, (x85, (x86, (x87, (x189, (x89, x90))))))], (x91.getD ((0 : Int).toNat) (Ty.dflt (.sl Y73)))])) fun y192 => some (y192, true)))
def F112_j2 (N : Nat) (x77 : Int) (x78 : ByteArray) (x79 : Int) (x80 : Int) (x81 : Int) (x82 : Bool) (x91 : (List (List Z73))) (x245 : (List Int)) : Option ((List Z73) × Bool) :=
  gd (InR (0 : Int) x91.length) (gd ((0 : Int).toNat < x91.length) (andO (F92 N ([[(x77, (x78, (x79, (x80, (x81, (x82, x245))))))], (x91.getD ((0 : Int).toNat) (Ty.dflt (.sl Y73)))])) fun y248 => some (y248, true)))
def F112_l0_b (N : Nat) (x77 : Int) (x78 : ByteArray) (x79 : Int) (x80 : Int) (x81 : Int) (x82 : Bool) (x83 : (List Int)) (x90 : (List Int)) (x91 : (List (List Z73))) (nx264 : (List Int) → Int → Option ((List Z73) × Bool)) (x256 : (List Int)) (x257 : Int) : Option ((List Z73) × Bool) :=
  cond (decide (x257 < (x83.length : Int))) (gd (InR x257 x83.length) (gd (InR (x83.getD x257.toNat (Ty.dflt (.int .i64))) x90.length) (gd (x256.length + ([(x90.getD (x83.getD x257.toNat (Ty.dflt (.int .i64))).toNat (Ty.dflt (.int .i64)))]).length ≤ lim (.int .i64)) (nx264 (x256 ++ ([(x90.getD (x83.getD x257.toNat (Ty.dflt (.int .i64))).toNat (Ty.dflt (.int .i64)))])) (IntKind.i64.wrap (x257 + (1 : Int))))))) (F112_j2 N x77 x78 x79 x80 x81 x82 x91 x256)
def F112_l0 (N : Nat) (x77 : Int) (x78 : ByteArray) (x79 : Int) (x80 : Int) (x81 : Int) (x82 : Bool) (x83 : (List Int)) (x90 : (List Int)) (x91 : (List (List Z73))) := loopF (F112_l0_b N x77 x78 x79 x80 x81 x82 x83 x90 x91) (fun _ _ => none)
theorem F112_l0_s N x77 x78 x79 x80 x81 x82 x83 x90 x91 {k} (hk : 0 < k) x256 x257 : F112_l0 N x77 x78 x79 x80 x81 x82 x83 x90 x91 k x256 x257 = F112_l0_b N x77 x78 x79 x80 x81 x82 x83 x90 x91 (F112_l0 N x77 x78 x79 x80 x81 x82 x83 x90 x91 (k - 1)) x256 x257 := by cases k;cases hk;rfl
def F112_j3 (N : Nat) (a0 : (List Z77)) (a1 : (List Z73)) (a2 : Int) (x77 : Int) (x78 : ByteArray) (x79 : Int) (x80 : Int) (x81 : Int) (x82 : Bool) (x83 : (List Int)) (x84 : Int) (x85 : ByteArray) (x86 : Int) (x87 : Int) (x88 : Int) (x89 : Bool) (x90 : (List Int)) (x91 : (List (List Z73))) (y3 : (List Int)) (x202 : Bool) : Option ((List Z73) × Bool) :=
  cond x202 (gd (InR (0 : Int) y3.length) (gd ((0 : Int).toNat < y3.length) (andO (F41 N a0 a1 (y3.getD ((0 : Int).toNat) (Ty.dflt (.int .i64)))) fun y205 => cond (a2 == (5 : Int)) (gd (InR (0 : Int) x91.length) (gd ((0 : Int).toNat < x91.length) (gd (InR (1 : Int) x91.length) (gd ((1 : Int).toNat < x91.length) (andO (F92 N ([[(x84, (x85, (x86, (x87, (x88, (x89, x90))))))], [(x77, (x78, (x79, (x80, (x81, (x82, x83))))))], (x91.getD ((0 : Int).toNat) (Ty.dflt (.sl Y73))), (x91.getD ((1 : Int).toNat) (Ty.dflt (.sl Y73)))])) fun y215 => some (y215, (decide (x79 < y205)))))))) (gd (InR (0 : Int) x91.length) (gd ((0 : Int).toNat < x91.length) (gd (InR (1 : Int) x91.length) (gd ((1 : Int).toNat < x91.length) (andO (F92 N ([[(x84, (x85, (x86, (x87, (x88, (x89, x90))))))], (x91.getD ((0 : Int).toNat) (Ty.dflt (.sl Y73))), [(x77, (x78, ((IntKind.i64.wrap (x79 - y205)), (x80, (x81, (x82, x83))))))], (x91.getD ((1 : Int).toNat) (Ty.dflt (.sl Y73)))])) fun y220 => some (y220, (decide ((IntKind.i64.wrap (x79 - y205)) ≥ (0 : Int)))))))))))) (cond (a2 == (7 : Int)) (gd (InR (0 : Int) x91.length) (gd ((0 : Int).toNat < x91.length) (andO (F92 N ([[(x84, (x85, (x86, (x87, (x88, (x89, x90))))))], (x91.getD ((0 : Int).toNat) (Ty.dflt (.sl Y73)))])) fun y223 => some (y223, true)))) (cond (a2 == (8 : Int)) (F112_l0 N x77 x78 x79 x80 x81 x82 x83 x90 x91 N ([]) (0 : Int)) (F112_j0 N x77 x78 x79 x80 x81 x82 x83 x84 x85 x86 x87 x88 x89 x90 x91)))
def F112_j4 (N : Nat) (a0 : (List Z77)) (a1 : (List Z73)) (a2 : Int) (x77 : Int) (x78 : ByteArray) (x79 : Int) (x80 : Int) (x81 : Int) (x82 : Bool) (x83 : (List Int)) (x84 : Int) (x85 : ByteArray) (x86 : Int) (x87 : Int) (x88 : Int) (x89 : Bool) (x90 : (List Int)) (x91 : (List (List Z73))) (y3 : (List Int)) (x185 : Bool) : Option ((List Z73) × Bool) :=
  cond x185 (gd (InR (0 : Int) x91.length) (gd ((0 : Int).toNat < x91.length) (andO (F92 N ([[(x84, (x85, (x86, (x87, (x88, (x89, x90))))))], [(x77, (x78, (x79, (x80, (x81, (x82, x83))))))], (x91.getD ((0 : Int).toNat) (Ty.dflt (.sl Y73)))])) fun y188 => some (y188, true)))) (cond (a2 == (2 : Int)) (cond x82 (some ([], false)) (cond x89 (some ([], false)) (cond (decide (x81 < x88)) (F112_j1 N x84 x85 x86 x87 x89 x90 x91 x81) (F112_j1 N x84 x85 x86 x87 x89 x90 x91 x88)))) (cond (a2 == (3 : Int)) (gd (InR (0 : Int) x91.length) (gd ((0 : Int).toNat < x91.length) (andO (F92 N ([[(x84, (x85, (x86, (x87, (x88, (x89, x90))))))], (x91.getD ((0 : Int).toNat) (Ty.dflt (.sl Y73)))])) fun y196 => some (y196, (x79 == x86))))) (cond (a2 == (4 : Int)) (gd (InR (0 : Int) x91.length) (gd ((0 : Int).toNat < x91.length) (gd (InR (1 : Int) x91.length) (gd ((1 : Int).toNat < x91.length) (andO (F92 N ([[(x84, (x85, (x86, (x87, (x88, (x89, x90))))))], [(x77, (x78, (x79, (x80, (x81, (x82, x83))))))], (x91.getD ((0 : Int).toNat) (Ty.dflt (.sl Y73))), [(x77, (x78, (x79, (x80, (x81, (x82, x83))))))], (x91.getD ((1 : Int).toNat) (Ty.dflt (.sl Y73)))])) fun y201 => some (y201, true)))))) (cond (a2 == (5 : Int)) (F112_j3 N a0 a1 a2 x77 x78 x79 x80 x81 x82 x83 x84 x85 x86 x87 x88 x89 x90 x91 y3 (a2 == (5 : Int))) (F112_j3 N a0 a1 a2 x77 x78 x79 x80 x81 x82 x83 x84 x85 x86 x87 x88 x89 x90 x91 y3 (a2 == (6 : Int)))))))
def F112_j5 (N : Nat) (a0 : (List Z77)) (a1 : (List Z73)) (a2 : Int) (y3 : (List Int)) (x77 : Int) (x78 : ByteArray) (x79 : Int) (x80 : Int) (x81 : Int) (x82 : Bool) (x83 : (List Int)) (x84 : Int) (x85 : ByteArray) (x86 : Int) (x87 : Int) (x88 : Int) (x89 : Bool) (x90 : (List Int)) (x91 : (List (List Z73))) : Option ((List Z73) × Bool) :=
  cond (a2 == (0 : Int)) (F112_j4 N a0 a1 a2 x77 x78 x79 x80 x81 x82 x83 x84 x85 x86 x87 x88 x89 x90 x91 y3 (a2 == (0 : Int))) (cond (a2 == (1 : Int)) (F112_j4 N a0 a1 a2 x77 x78 x79 x80 x81 x82 x83 x84 x85 x86 x87 x88 x89 x90 x91 y3 (a2 == (1 : Int))) (cond (a2 == (9 : Int)) (F112_j4 N a0 a1 a2 x77 x78 x79 x80 x81 x82 x83 x84 x85 x86 x87 x88 x89 x90 x91 y3 (a2 == (9 : Int))) (F112_j4 N a0 a1 a2 x77 x78 x79 x80 x81 x82 x83 x84 x85 x86 x87 x88 x89 x90 x91 y3 (a2 == (11 : Int)))))
def F112_l1_b (N : Nat) (a0 : (List Z77)) (a1 : (List Z73)) (a2 : Int) (y3 : (List Int)) (nx332 : Int → ByteArray → Int → Int → Int → Bool → (List Int) → Int → ByteArray → Int → Int → Int → Bool → (List Int) → (List (List Z73)) → Int → Option ((List Z73) × Bool)) (x302 : Int) (x303 : ByteArray) (x304 : Int) (x305 : Int) (x306 : Int) (x307 : Bool) (x308 : (List Int)) (x309 : Int) (x310 : ByteArray) (x311 : Int) (x312 : Int) (x313 : Int) (x314 : Bool) (x315 : (List Int)) (x316 : (List (List Z73))) (x317 : Int) : Option ((List Z73) × Bool) :=
  cond (decide (x317 < (y3.length : Int))) (gd (InR x317 y3.length) (gd (x317.toNat < y3.length) (andO (F88 N a1 (y3.getD x317.toNat (Ty.dflt (.int .i64))) (10 : Int)) fun y342 => gd (InR x317 y3.length) (gd (x317.toNat < y3.length) (gd (0 ≤ (y3.getD x317.toNat (Ty.dflt (.int .i64))) ∧ (y3.getD x317.toNat (Ty.dflt (.int .i64))) ≤ y342.1 ∧ y342.1 ≤ (a1.length : Int)) (gd (x316.length + ([((a1.take y342.1.toNat).drop (y3.getD x317.toNat (Ty.dflt (.int .i64))).toNat)]).length ≤ lim (.sl Y73)) (nx332 x302 x303 x304 x305 x306 x307 x308 x309 x310 x311 x312 x313 x314 x315 (x316 ++ ([((a1.take y342.1.toNat).drop (y3.getD x317.toNat (Ty.dflt (.int .i64))).toNat)])) (IntKind.i64.wrap (x317 + (1 : Int)))))))))) (F112_j5 N a0 a1 a2 y3 x302 x303 x304 x305 x306 x307 x308 x309 x310 x311 x312 x313 x314 x315 x316)
def F112_l1 (N : Nat) (a0 : (List Z77)) (a1 : (List Z73)) (a2 : Int) (y3 : (List Int)) := loopF (F112_l1_b N a0 a1 a2 y3) (fun _ _ _ _ _ _ _ _ _ _ _ _ _ _ _ _ => none)
theorem F112_l1_s N a0 a1 a2 y3 {k} (hk : 0 < k) x302 x303 x304 x305 x306 x307 x308 x309 x310 x311 x312 x313 x314 x315 x316 x317 : F112_l1 N a0 a1 a2 y3 k x302 x303 x304 x305 x306 x307 x308 x309 x310 x311 x312 x313 x314 x315 x316 x317 = F112_l1_b N a0 a1 a2 y3 (F112_l1 N a0 a1 a2 y3 (k - 1)) x302 x303 x304 x305 x306 x307 x308 x309 x310 x311 x312 x313 x314 x315 x316 x317 := by cases k;cases hk;rfl
def F112 (N : Nat) (a0 : (List Z77)) (a1 : (List Z73)) (a2 : Int) (a3 : Int) : Option ((List Z73) × Bool) :=
  gd (InR a3 a1.length) (gd (InR (IntKind.i64.wrap (a3 + (1 : Int))) a1.length) (andO (F89 N a1 (IntKind.i64.wrap (a3 + (1 : Int)))) fun y3 => F112_l1 N a0 a1 a2 y3 N ((a1.getD a3.toNat (Ty.dflt Y73)).1) ((a1.getD a3.toNat (Ty.dflt Y73)).2.1) ((a1.getD a3.toNat (Ty.dflt Y73)).2.2.1) ((a1.getD a3.toNat (Ty.dflt Y73)).2.2.2.1) ((a1.getD a3.toNat (Ty.dflt Y73)).2.2.2.2.1) ((a1.getD a3.toNat (Ty.dflt Y73)).2.2.2.2.2.1) ((a1.getD a3.toNat (Ty.dflt Y73)).2.2.2.2.2.2) ((a1.getD (IntKind.i64.wrap (a3 + (1 : Int))).toNat (Ty.dflt Y73)).1) ((a1.getD (IntKind.i64.wrap (a3 + (1 : Int))).toNat (Ty.dflt Y73)).2.1) ((a1.getD (IntKind.i64.wrap (a3 + (1 : Int))).toNat (Ty.dflt Y73)).2.2.1) ((a1.getD (IntKind.i64.wrap (a3 + (1 : Int))).toNat (Ty.dflt Y73)).2.2.2.1) ((a1.getD (IntKind.i64.wrap (a3 + (1 : Int))).toNat (Ty.dflt Y73)).2.2.2.2.1) ((a1.getD (IntKind.i64.wrap (a3 + (1 : Int))).toNat (Ty.dflt Y73)).2.2.2.2.2.1) ((a1.getD (IntKind.i64.wrap (a3 + (1 : Int))).toNat (Ty.dflt Y73)).2.2.2.2.2.2) ([]) (0 : Int)))
theorem ok112 N a0 a1 a2 a3 {r} (h : F112 N a0 a1 a2 a3 = some r) : Con prog 112 [Vv (.sl Y77) a0, Vv (.sl Y73) a1, I a2, I a3] [.lf (.own Y73 r.1 .dp), .lf (.v .bool r.2)] := by
 refine ctr [.lf (.own Y73 .dp), .lf (.v .bool)] K func112 rfl fun w0 E0 ht => ?_
 unfold F112 at h
 show VW _ _ _ _ _ (retQ _ _ _ _) _
 refine nR K (tn 2) ?_
 obtain⟨g1,h⟩:=gS h
 refine nR K (pu 2 (an g1 (tn 3))) ?_
 obtain⟨g2,h⟩:=gS h
 refine nR K (pu 3 (an g2 (tn 3))) <| sq <| VW.region <| nG K 3 (tn 3) ?_
 obtain⟨y3,hy,h⟩:=aS h
 refine clc false [.t (.sl Y73), .t (.int .i64)] [] (some 32) K (ok89 N _ _ hy) <| nN K (tn 1) <| nR K (tn 2) ?_
 refine VW.join (fun s => ∃ x77 x78 x79 x80 x81 x82 x83 x84 x85 x86 x87 x88 x89 x90 x91, s = ⟨[(0, Vv (.sl Y77) a0), (1, Vv (.sl Y73) a1), (2, I a2), (10, .lf (.ptr 0 0 0 0)), (11, .lf (.ptr 1 0 0 0)), (12, hh 2), (13, hh 3)], [bx [zi x77, zs x78, zi x79, zi x80, zi x81, zb x82, .v (.sl (.int .i64)) x83] 74, bx [zi x84, zs x85, zi x86, zi x87, zi x88, zb x89, .v (.sl (.int .i64)) x90] 74, ar 0 (.int .i64) y3 .dp, ar 0 (.sl Y73) x91 .tp]⟩ ∧ F112_j5 N a0 a1 a2 y3 x77 x78 x79 x80 x81 x82 x83 x84 x85 x86 x87 x88 x89 x90 x91 = some r) ?_ ?_
 ·refine nR K (tn 1) <| VW.block <| lop (fun k s => ∃ x302 x303 x304 x305 x306 x307 x308 x309 x310 x311 x312 x313 x314 x315 x316 x317, s = ⟨[(0, Vv (.sl Y77) a0), (1, Vv (.sl Y73) a1), (2, I a2), (10, .lf (.ptr 0 0 0 0)), (11, .lf (.ptr 1 0 0 0)), (12, hh 2), (13, hh 3), (14, I x317)], [bx [zi x302, zs x303, zi x304, zi x305, zi x306, zb x307, .v (.sl (.int .i64)) x308] 74, bx [zi x309, zs x310, zi x311, zi x312, zi x313, zb x314, .v (.sl (.int .i64)) x315] 74, ar 0 (.int .i64) y3 .dp, ar 0 (.sl Y73) x316 .tp]⟩ ∧ F112_l1 N a0 a1 a2 y3 k x302 x303 x304 x305 x306 x307 x308 x309 x310 x311 x312 x313 x314 x315 x316 x317 = some r) N [.nilS 13 (.sl Y73) .tp, .ren [0, 1, 2, 10, 11, 12, 13, 14] [0, 1, 2, 3]] ⟨(a1.getD a3.toNat D73).1, (a1.getD a3.toNat D73).2.1, (a1.getD a3.toNat D73).2.2.1, (a1.getD a3.toNat D73).2.2.2.1, (a1.getD a3.toNat D73).2.2.2.2.1, (a1.getD a3.toNat D73).2.2.2.2.2.1, (a1.getD a3.toNat D73).2.2.2.2.2.2, (a1.getD (wr (a3 + (1 : Int))).toNat D73).1, (a1.getD (wr (a3 + (1 : Int))).toNat D73).2.1, (a1.getD (wr (a3 + (1 : Int))).toNat D73).2.2.1, (a1.getD (wr (a3 + (1 : Int))).toNat D73).2.2.2.1, (a1.getD (wr (a3 + (1 : Int))).toNat D73).2.2.2.2.1, (a1.getD (wr (a3 + (1 : Int))).toNat D73).2.2.2.2.2.1, (a1.getD (wr (a3 + (1 : Int))).toNat D73).2.2.2.2.2.2, [], (0 : Int), rfl, h⟩ ?_
  rintro k332 s ⟨x302, x303, x304, x305, x306, x307, x308, x309, x310, x311, x312, x313, x314, x315, x316, x317, rfl, h⟩
  cases k332 with
  | zero => cases show none = some r from h
  | succ k332 =>
   replace h : F112_l1_b N a0 a1 a2 y3 (F112_l1 N a0 a1 a2 y3 k332) x302 x303 x304 x305 x306 x307 x308 x309 x310 x311 x312 x313 x314 x315 x316 x317 = some r := h
   unfold F112_l1_b at h
   refine sq <| nR K (tn 4) ?_
   refine cnd h ?_ ?_<;>intro h
   ·refine VW.skip <| sq <| VW.block <| sq <| VW.region ?_
    obtain⟨g340,h⟩:=gS h
    obtain⟨g341,h⟩:=gS h
    refine nG K 5 (pu 3 (an g340 (an g341 (tn 0)))) ?_
    obtain⟨y342,hy,h⟩:=aS h
    refine clc false [.t (.sl Y73), .t (.int .i64), .t (.int .i64)] [] (some 46) K (ok88 N _ _ _ hy) <| nN K (tn 5) ?_
    obtain⟨g343,h⟩:=gS h
    obtain⟨g344,h⟩:=gS h
    obtain⟨g345,h⟩:=gS h
    obtain⟨g346,h⟩:=gS h
    refine nE K (pu 4 (an g343 (an g344 (pu 1 (an g345 (pu 1 (an g346 (tn 1)))))))) <| nE K (tn 3) ?_
    exact aro [.ren [0, 1, 2, 10, 11, 12, 13, 14] [0, 1, 2, 3]] ⟨x302, x303, x304, x305, x306, x307, x308, x309, x310, x311, x312, x313, x314, x315, (x316 ++ ([((a1.take y342.1.toNat).drop (y3.getD x317.toNat (Ty.dflt (.int .i64))).toNat)])), (wr (x317 + (1 : Int))), rfl, h⟩
   refine VW.exit ?_
   exact arv [.ren [0, 1, 2, 10, 11, 12, 13] [0, 1, 2, 3]] ⟨x302, x303, x304, x305, x306, x307, x308, x309, x310, x311, x312, x313, x314, x315, x316, rfl, h⟩
 rintro s ⟨x77, x78, x79, x80, x81, x82, x83, x84, x85, x86, x87, x88, x89, x90, x91, rfl, h⟩
 unfold F112_j5 at h
 refine VW.join (fun s => s = ⟨[(10, .lf (.ptr 0 0 0 0)), (11, .lf (.ptr 1 0 0 0)), (13, hh 2)], [bx [zi x77, zs x78, zi x79, zi x80, zi x81, zb x82, .v (.sl (.int .i64)) x83] 74, bx [zi x84, zs x85, zi x86, zi x87, zi x88, zb x89, .v (.sl (.int .i64)) x90] 74, ar 0 (.sl Y73) x91 .tp]⟩ ∧ F112_j0 N x77 x78 x79 x80 x81 x82 x83 x84 x85 x86 x87 x88 x89 x90 x91 = some r) ?_ ?_
 ·refine nR K (tn 1) <| VW.block ?_
  refine VW.join (fun s => ∃ x185, s = ⟨[(0, Vv (.sl Y77) a0), (1, Vv (.sl Y73) a1), (2, I a2), (10, .lf (.ptr 0 0 0 0)), (11, .lf (.ptr 1 0 0 0)), (12, hh 2), (13, hh 3), (59, I a2), (60, B x185)], [bx [zi x77, zs x78, zi x79, zi x80, zi x81, zb x82, .v (.sl (.int .i64)) x83] 74, bx [zi x84, zs x85, zi x86, zi x87, zi x88, zb x89, .v (.sl (.int .i64)) x90] 74, ar 0 (.int .i64) y3 .dp, ar 0 (.sl Y73) x91 .tp]⟩ ∧ F112_j4 N a0 a1 a2 x77 x78 x79 x80 x81 x82 x83 x84 x85 x86 x87 x88 x89 x90 x91 y3 x185 = some r) ?_ ?_
  ·refine nR K (tn 2) ?_
   refine cnd h ?_ ?_<;>intro h
   ·refine VW.skip ?_
    exact arv [.ren [0, 1, 2, 10, 11, 12, 13, 59, 60] [0, 1, 2, 3]] ⟨(a2 == (0 : Int)), rfl, h⟩
   refine nR K (tn 2) ?_
   refine cnd h ?_ ?_<;>intro h
   ·refine VW.skip ?_
    exact arv [.ren [0, 1, 2, 10, 11, 12, 13, 59, 60] [0, 1, 2, 3]] ⟨(a2 == (1 : Int)), rfl, h⟩
   refine nR K (tn 2) ?_
   refine cnd h ?_ ?_<;>intro h
   ·refine VW.skip ?_
    exact arv [.ren [0, 1, 2, 10, 11, 12, 13, 59, 60] [0, 1, 2, 3]] ⟨(a2 == (9 : Int)), rfl, h⟩
   refine nE K (tn 2) ?_
   exact arv [.ren [0, 1, 2, 10, 11, 12, 13, 59, 60] [0, 1, 2, 3]] ⟨(a2 == (11 : Int)), rfl, h⟩
  rintro s ⟨x185, rfl, h⟩
  unfold F112_j4 at h
  refine cnd h ?_ ?_<;>intro h
  ·refine sq ?_
   obtain⟨g186,h⟩:=gS h
   obtain⟨g187,h⟩:=gS h
   obtain⟨y188,hy188,h⟩:=aS h
   refine VW.gh (Gh.rsv Y73 .tp (by decide)) <| VW.gh (Gh.rsv Y73 .tp (by decide)) <| VW.gh (Gh.rsv (.sl Y73) .tp (by decide)) ?_
   refine VW.drawnM (by kernel_rfl) [some (65, .agg [zi x84, zs x85, zi x86, zi x87, zi x88, zb x89, .v (.sl (.int .i64)) x90]), some (66, .lf (.hd 4 1 none)), some (67, .agg [zi x77, zs x78, zi x79, zi x80, zi x81, zb x82, .v (.sl (.int .i64)) x83]), some (68, .lf (.hd 5 1 none)), some (69, hh 3), some (70, .lf (.ptr 3 0 ((0 : Int).toNat) 0)), some (71, Vv (.sl Y73) (x91.getD ((0 : Int).toNat) (Ty.dflt (.sl Y73)))), some (72, .lf (.hd 6 1 none)), some (73, hh 7), some (8, hh 7), some (9, B true)] [1, 3, 7, 8] [(0, [bx [zi x77, zs x78, zi x79, zi x80, zi x81, zb x82, .v (.sl (.int .i64)) x83] 74, bx [zi x84, zs x85, zi x86, zi x87, zi x88, zb x89, .v (.sl (.int .i64)) x90] 74, ar 0 (.int .i64) y3 .dp, ar 0 (.sl Y73) x91 .tp, ar 0 Y73 ([]) .tp, ar 0 Y73 ([]) .tp, ar 0 (.sl Y73) ([]) .tp]), (1, [bx [zi x77, zs x78, zi x79, zi x80, zi x81, zb x82, .v (.sl (.int .i64)) x83] 74, bx [zi x84, zs x85, zi x86, zi x87, zi x88, zb x89, .v (.sl (.int .i64)) x90] 74, ar 0 (.int .i64) y3 .dp, ar 0 (.sl Y73) x91 .tp, ar 1 Y73 ([(x84, (x85, (x86, (x87, (x88, (x89, x90))))))]) .tp, ar 0 Y73 ([]) .tp, ar 0 (.sl Y73) ([]) .tp]), (2, [bx [zi x77, zs x78, zi x79, zi x80, zi x81, zb x82, .v (.sl (.int .i64)) x83] 74, bx [zi x84, zs x85, zi x86, zi x87, zi x88, zb x89, .v (.sl (.int .i64)) x90] 74, ar 0 (.int .i64) y3 .dp, ar 0 (.sl Y73) x91 .tp, ar 0 Y73 ([]) .tp, ar 1 Y73 ([(x77, (x78, (x79, (x80, (x81, (x82, x83))))))]) .tp, ar 0 (.sl Y73) ([]) .tp]), (3, [bx [zi x77, zs x78, zi x79, zi x80, zi x81, zb x82, .v (.sl (.int .i64)) x83] 74, bx [zi x84, zs x85, zi x86, zi x87, zi x88, zb x89, .v (.sl (.int .i64)) x90] 74, ar 0 (.int .i64) y3 .dp, ar 0 (.sl Y73) x91 .tp, ar 1 Y73 ([(x84, (x85, (x86, (x87, (x88, (x89, x90))))))]) .tp, ar 1 Y73 ([(x77, (x78, (x79, (x80, (x81, (x82, x83))))))]) .tp, ar 0 (.sl Y73) ([]) .tp]), (7, [bx [zi x77, zs x78, zi x79, zi x80, zi x81, zb x82, .v (.sl (.int .i64)) x83] 74, bx [zi x84, zs x85, zi x86, zi x87, zi x88, zb x89, .v (.sl (.int .i64)) x90] 74, ar 0 (.int .i64) y3 .dp, ar 0 (.sl Y73) x91 .tp, none, none, ar 1 (.sl Y73) ([[(x84, (x85, (x86, (x87, (x88, (x89, x90))))))], [(x77, (x78, (x79, (x80, (x81, (x82, x83))))))], (x91.getD ((0 : Int).toNat) (Ty.dflt (.sl Y73)))]) .tp]), (15, [bx [zi x77, zs x78, zi x79, zi x80, zi x81, zb x82, .v (.sl (.int .i64)) x83] 74, bx [zi x84, zs x85, zi x86, zi x87, zi x88, zb x89, .v (.sl (.int .i64)) x90] 74, ar 0 (.int .i64) y3 .dp, ar 0 (.sl Y73) x91 .tp, none, none, ar 1 (.sl Y73) ([[(x84, (x85, (x86, (x87, (x88, (x89, x90))))))], [(x77, (x78, (x79, (x80, (x81, (x82, x83))))))], (x91.getD ((0 : Int).toNat) (Ty.dflt (.sl Y73)))]) .tp, ar 0 Y73 y188 .dp])] [(0, 0), (0, 2), (1, 0), (1, 2), (2, 0), (2, 1), (3, 0), (3, 1), (4, 0), (4, 1), (4, 2), (4, 3), (4, 7), (4, 15), (5, 0), (5, 1), (5, 2), (5, 3), (5, 7), (5, 15), (6, 0), (6, 1), (6, 2), (6, 3), (7, 3), (8, 7), (9, 15), (10, 15)] [8, 9] [7] (s' := ⟨[(8, hh 0), (9, B true)], [ar 0 Y73 y188 .dp]⟩) (by kernel_rfl) (by kernel_rfl) ⟨mT K,
    mT K,
    ⟨_, rfl, Stp.litAt 4 K (by kernel_rfl)⟩,
    ⟨_, rfl, Stp.litAt 4 K (by kernel_rfl)⟩,
    mT K,
    mT K,
    ⟨_, rfl, Stp.litAt 5 K (by kernel_rfl)⟩,
    ⟨_, rfl, Stp.litAt 5 K (by kernel_rfl)⟩,
    mT K,
    mT K,
    mT K,
    mT K,
    mT K,
    mT K,
    ⟨_, rfl, Stp.ev K (m := .dp) (φ := InR (0 : Int) x91.length) (by kernel_rfl) g186⟩,
    ⟨_, rfl, Stp.ev K (m := .dp) (φ := InR (0 : Int) x91.length) (by kernel_rfl) g186⟩,
    ⟨_, rfl, Stp.ev K (m := .dp) (φ := InR (0 : Int) x91.length) (by kernel_rfl) g186⟩,
    ⟨_, rfl, Stp.ev K (m := .dp) (φ := InR (0 : Int) x91.length) (by kernel_rfl) g186⟩,
    ⟨_, rfl, Stp.ev K (m := .dp) (φ := InR (0 : Int) x91.length) (by kernel_rfl) g186⟩,
    ⟨_, rfl, Stp.ev K (m := .dp) (φ := InR (0 : Int) x91.length) (by kernel_rfl) g186⟩,
    ⟨_, rfl, Stp.ev K (m := .dp) (φ := (0 : Int).toNat < x91.length) (by kernel_rfl) g187⟩,
    ⟨_, rfl, Stp.ev K (m := .dp) (φ := (0 : Int).toNat < x91.length) (by kernel_rfl) g187⟩,
    ⟨_, rfl, Stp.ev K (m := .dp) (φ := (0 : Int).toNat < x91.length) (by kernel_rfl) g187⟩,
    ⟨_, rfl, Stp.ev K (m := .dp) (φ := (0 : Int).toNat < x91.length) (by kernel_rfl) g187⟩,
    ⟨_, rfl, Stp.frz 4 (by kernel_rfl) (Stp.frz 5 (by kernel_rfl) (Stp.litAt 6 K (by kernel_rfl)) (by kernel_rfl)) (by kernel_rfl)⟩,
    ⟨_, rfl, Stp.eq (Stp.call true [.t (.sl (.sl Y73))] [] K (d := some 73) (by kernel_rfl) (ok92 N _ hy188) rfl) (by kernel_rfl) (by kernel_rfl)⟩,
    mT K,
    mT K, trivial⟩ (by kernel_rfl) ?_
   cases h; exact VW.ret (rt [some 0])
  refine nR K (tn 2) ?_
  refine cnd h ?_ ?_<;>intro h
  ·refine sq <| sq <| VW.region <| nG K 3 (tn 3) ?_
   refine spC 78 h ?_ ?_<;>intro h
   ·refine nN K (tn 3) ?_
    refine VW.cond (b := true) (by kernel_rfl) (fun _ => ?_) (fun h' => nomatch h')
    refine nR K (tn 2) ?_
    cases h; exact VW.ret (rt [none])
   refine nN K (tn 3) ?_
   refine cnd h ?_ ?_<;>intro h
   ·refine nR K (tn 2) ?_
    cases h; exact VW.ret (rt [none])
   refine VW.skip ?_
   refine VW.join (fun s => ∃ x189, s = ⟨[(11, .lf (.ptr 0 0 0 0)), (13, hh 1)], [bx [zi x84, zs x85, zi x86, zi x87, zi x189, zb x89, .v (.sl (.int .i64)) x90] 74, ar 0 (.sl Y73) x91 .tp]⟩ ∧ F112_j1 N x84 x85 x86 x87 x89 x90 x91 x189 = some r) ?_ ?_
   ·refine nR K (tn 5) ?_
    refine cnd h ?_ ?_<;>intro h
    ·refine nE K (tn 4) ?_
     exact arv [.ren [11, 13] [1, 3]] ⟨x81, rfl, h⟩
    refine VW.skip ?_
    exact arv [.ren [11, 13] [1, 3]] ⟨x88, rfl, h⟩
   rintro s ⟨x189, rfl, h⟩
   unfold F112_j1 at h
   refine sq ?_
   obtain⟨g190,h⟩:=gS h
   obtain⟨g191,h⟩:=gS h
   obtain⟨y192,hy192,h⟩:=aS h
   refine dr K [(5, .ev [2]), (6, .cl [] (some 96) [.lf (.own Y73 y192 .dp)])] [(5, 1), (6, 2)] [1, 5, 6] [8, 9] [4] (pu 3 (an g190 (an g191 (tn 4)))) ⟨qE [2] K trivial, qC true [.t (.sl (.sl Y73))] [] [] (some 96) K (ok92 N _ hy192), trivial⟩ ?_
   cases h; exact VW.ret (rt [some 0])
  refine nR K (tn 2) ?_
  refine cnd h ?_ ?_<;>intro h
  ·refine sq ?_
   obtain⟨g194,h⟩:=gS h
   obtain⟨g195,h⟩:=gS h
   obtain⟨y196,hy196,h⟩:=aS h
   refine dr K [(5, .ev [4]), (6, .cl [] (some 105) [.lf (.own Y73 y196 .dp)])] [(5, 1), (6, 2)] [1, 5, 6] [8, 9] [6] (pu 3 (an g194 (an g195 (tn 9)))) ⟨qE [4] K trivial, qC true [.t (.sl (.sl Y73))] [] [] (some 105) K (ok92 N _ hy196), trivial⟩ ?_
   cases h; exact VW.ret (rt [some 0])
  refine nR K (tn 2) ?_
  refine cnd h ?_ ?_<;>intro h
  ·refine sq <| VW.ghl [.ren [10, 11, 13] [0, 1, 3]] ?_
   obtain⟨g197,h⟩:=gS h
   obtain⟨g198,h⟩:=gS h
   obtain⟨g199,h⟩:=gS h
   obtain⟨g200,h⟩:=gS h
   obtain⟨y201,hy201,h⟩:=aS h
   refine VW.gh (Gh.rsv Y73 .tp (by decide)) <| VW.gh (Gh.rsv Y73 .tp (by decide)) <| VW.gh (Gh.rsv Y73 .tp (by decide)) <| VW.gh (Gh.rsv (.sl Y73) .tp (by decide)) ?_
   refine VW.drawnM (by kernel_rfl) [some (113, .agg [zi x84, zs x85, zi x86, zi x87, zi x88, zb x89, .v (.sl (.int .i64)) x90]), some (114, .lf (.hd 3 1 none)), some (115, .agg [zi x77, zs x78, zi x79, zi x80, zi x81, zb x82, .v (.sl (.int .i64)) x83]), some (116, .lf (.hd 4 1 none)), some (117, hh 2), some (118, .lf (.ptr 2 0 ((0 : Int).toNat) 0)), some (119, Vv (.sl Y73) (x91.getD ((0 : Int).toNat) (Ty.dflt (.sl Y73)))), some (120, .agg [zi x77, zs x78, zi x79, zi x80, zi x81, zb x82, .v (.sl (.int .i64)) x83]), some (121, .lf (.hd 5 1 none)), some (122, hh 2), some (123, .lf (.ptr 2 0 ((1 : Int).toNat) 0)), some (124, Vv (.sl Y73) (x91.getD ((1 : Int).toNat) (Ty.dflt (.sl Y73)))), some (125, .lf (.hd 6 1 none)), some (126, hh 7), some (8, hh 7), some (9, B true)] [1, 3, 8, 12, 13] [(0, [bx [zi x77, zs x78, zi x79, zi x80, zi x81, zb x82, .v (.sl (.int .i64)) x83] 74, bx [zi x84, zs x85, zi x86, zi x87, zi x88, zb x89, .v (.sl (.int .i64)) x90] 74, ar 0 (.sl Y73) x91 .tp, ar 0 Y73 ([]) .tp, ar 0 Y73 ([]) .tp, ar 0 Y73 ([]) .tp, ar 0 (.sl Y73) ([]) .tp]), (1, [bx [zi x77, zs x78, zi x79, zi x80, zi x81, zb x82, .v (.sl (.int .i64)) x83] 74, bx [zi x84, zs x85, zi x86, zi x87, zi x88, zb x89, .v (.sl (.int .i64)) x90] 74, ar 0 (.sl Y73) x91 .tp, ar 1 Y73 ([(x84, (x85, (x86, (x87, (x88, (x89, x90))))))]) .tp, ar 0 Y73 ([]) .tp, ar 0 Y73 ([]) .tp, ar 0 (.sl Y73) ([]) .tp]), (2, [bx [zi x77, zs x78, zi x79, zi x80, zi x81, zb x82, .v (.sl (.int .i64)) x83] 74, bx [zi x84, zs x85, zi x86, zi x87, zi x88, zb x89, .v (.sl (.int .i64)) x90] 74, ar 0 (.sl Y73) x91 .tp, ar 0 Y73 ([]) .tp, ar 1 Y73 ([(x77, (x78, (x79, (x80, (x81, (x82, x83))))))]) .tp, ar 0 Y73 ([]) .tp, ar 0 (.sl Y73) ([]) .tp]), (3, [bx [zi x77, zs x78, zi x79, zi x80, zi x81, zb x82, .v (.sl (.int .i64)) x83] 74, bx [zi x84, zs x85, zi x86, zi x87, zi x88, zb x89, .v (.sl (.int .i64)) x90] 74, ar 0 (.sl Y73) x91 .tp, ar 1 Y73 ([(x84, (x85, (x86, (x87, (x88, (x89, x90))))))]) .tp, ar 1 Y73 ([(x77, (x78, (x79, (x80, (x81, (x82, x83))))))]) .tp, ar 0 Y73 ([]) .tp, ar 0 (.sl Y73) ([]) .tp]), (4, [bx [zi x77, zs x78, zi x79, zi x80, zi x81, zb x82, .v (.sl (.int .i64)) x83] 74, bx [zi x84, zs x85, zi x86, zi x87, zi x88, zb x89, .v (.sl (.int .i64)) x90] 74, ar 0 (.sl Y73) x91 .tp, ar 0 Y73 ([]) .tp, ar 0 Y73 ([]) .tp, ar 1 Y73 ([(x77, (x78, (x79, (x80, (x81, (x82, x83))))))]) .tp, ar 0 (.sl Y73) ([]) .tp]), (5, [bx [zi x77, zs x78, zi x79, zi x80, zi x81, zb x82, .v (.sl (.int .i64)) x83] 74, bx [zi x84, zs x85, zi x86, zi x87, zi x88, zb x89, .v (.sl (.int .i64)) x90] 74, ar 0 (.sl Y73) x91 .tp, ar 1 Y73 ([(x84, (x85, (x86, (x87, (x88, (x89, x90))))))]) .tp, ar 0 Y73 ([]) .tp, ar 1 Y73 ([(x77, (x78, (x79, (x80, (x81, (x82, x83))))))]) .tp, ar 0 (.sl Y73) ([]) .tp]), (6, [bx [zi x77, zs x78, zi x79, zi x80, zi x81, zb x82, .v (.sl (.int .i64)) x83] 74, bx [zi x84, zs x85, zi x86, zi x87, zi x88, zb x89, .v (.sl (.int .i64)) x90] 74, ar 0 (.sl Y73) x91 .tp, ar 0 Y73 ([]) .tp, ar 1 Y73 ([(x77, (x78, (x79, (x80, (x81, (x82, x83))))))]) .tp, ar 1 Y73 ([(x77, (x78, (x79, (x80, (x81, (x82, x83))))))]) .tp, ar 0 (.sl Y73) ([]) .tp]), (7, [bx [zi x77, zs x78, zi x79, zi x80, zi x81, zb x82, .v (.sl (.int .i64)) x83] 74, bx [zi x84, zs x85, zi x86, zi x87, zi x88, zb x89, .v (.sl (.int .i64)) x90] 74, ar 0 (.sl Y73) x91 .tp, ar 1 Y73 ([(x84, (x85, (x86, (x87, (x88, (x89, x90))))))]) .tp, ar 1 Y73 ([(x77, (x78, (x79, (x80, (x81, (x82, x83))))))]) .tp, ar 1 Y73 ([(x77, (x78, (x79, (x80, (x81, (x82, x83))))))]) .tp, ar 0 (.sl Y73) ([]) .tp]), (15, [bx [zi x77, zs x78, zi x79, zi x80, zi x81, zb x82, .v (.sl (.int .i64)) x83] 74, bx [zi x84, zs x85, zi x86, zi x87, zi x88, zb x89, .v (.sl (.int .i64)) x90] 74, ar 0 (.sl Y73) x91 .tp, none, none, none, ar 1 (.sl Y73) ([[(x84, (x85, (x86, (x87, (x88, (x89, x90))))))], [(x77, (x78, (x79, (x80, (x81, (x82, x83))))))], (x91.getD ((0 : Int).toNat) (Ty.dflt (.sl Y73))), [(x77, (x78, (x79, (x80, (x81, (x82, x83))))))], (x91.getD ((1 : Int).toNat) (Ty.dflt (.sl Y73)))]) .tp]), (31, [bx [zi x77, zs x78, zi x79, zi x80, zi x81, zb x82, .v (.sl (.int .i64)) x83] 74, bx [zi x84, zs x85, zi x86, zi x87, zi x88, zb x89, .v (.sl (.int .i64)) x90] 74, ar 0 (.sl Y73) x91 .tp, none, none, none, ar 1 (.sl Y73) ([[(x84, (x85, (x86, (x87, (x88, (x89, x90))))))], [(x77, (x78, (x79, (x80, (x81, (x82, x83))))))], (x91.getD ((0 : Int).toNat) (Ty.dflt (.sl Y73))), [(x77, (x78, (x79, (x80, (x81, (x82, x83))))))], (x91.getD ((1 : Int).toNat) (Ty.dflt (.sl Y73)))]) .tp, ar 0 Y73 y201 .dp])] [(0, 0), (0, 2), (0, 4), (0, 6), (1, 0), (1, 2), (1, 4), (1, 6), (2, 0), (2, 1), (2, 4), (2, 5), (3, 0), (3, 1), (3, 4), (3, 5), (4, 0), (4, 1), (4, 2), (4, 3), (4, 4), (4, 5), (4, 6), (4, 7), (4, 15), (4, 31), (5, 0), (5, 1), (5, 2), (5, 3), (5, 4), (5, 5), (5, 6), (5, 7), (5, 15), (5, 31), (6, 0), (6, 1), (6, 2), (6, 3), (6, 4), (6, 5), (6, 6), (6, 7), (7, 0), (7, 1), (7, 2), (7, 3), (8, 0), (8, 1), (8, 2), (8, 3), (9, 0), (9, 1), (9, 2), (9, 3), (9, 4), (9, 5), (9, 6), (9, 7), (9, 15), (9, 31), (10, 0), (10, 1), (10, 2), (10, 3), (10, 4), (10, 5), (10, 6), (10, 7), (10, 15), (10, 31), (11, 0), (11, 1), (11, 2), (11, 3), (11, 4), (11, 5), (11, 6), (11, 7), (12, 7), (13, 15), (14, 31), (15, 31)] [8, 9] [7] (s' := ⟨[(8, hh 0), (9, B true)], [ar 0 Y73 y201 .dp]⟩) (by kernel_rfl) (by kernel_rfl) ⟨mT K,
    mT K,
    mT K,
    mT K,
    ⟨_, rfl, Stp.litAt 3 K (by kernel_rfl)⟩,
    ⟨_, rfl, Stp.litAt 3 K (by kernel_rfl)⟩,
    ⟨_, rfl, Stp.litAt 3 K (by kernel_rfl)⟩,
    ⟨_, rfl, Stp.litAt 3 K (by kernel_rfl)⟩,
    mT K,
    mT K,
    mT K,
    mT K,
    ⟨_, rfl, Stp.litAt 4 K (by kernel_rfl)⟩,
    ⟨_, rfl, Stp.litAt 4 K (by kernel_rfl)⟩,
    ⟨_, rfl, Stp.litAt 4 K (by kernel_rfl)⟩,
    ⟨_, rfl, Stp.litAt 4 K (by kernel_rfl)⟩,
    mT K,
    mT K,
    mT K,
    mT K,
    mT K,
    mT K,
    mT K,
    mT K,
    mT K,
    mT K,
    ⟨_, rfl, Stp.ev K (m := .dp) (φ := InR (0 : Int) x91.length) (by kernel_rfl) g197⟩,
    ⟨_, rfl, Stp.ev K (m := .dp) (φ := InR (0 : Int) x91.length) (by kernel_rfl) g197⟩,
    ⟨_, rfl, Stp.ev K (m := .dp) (φ := InR (0 : Int) x91.length) (by kernel_rfl) g197⟩,
    ⟨_, rfl, Stp.ev K (m := .dp) (φ := InR (0 : Int) x91.length) (by kernel_rfl) g197⟩,
    ⟨_, rfl, Stp.ev K (m := .dp) (φ := InR (0 : Int) x91.length) (by kernel_rfl) g197⟩,
    ⟨_, rfl, Stp.ev K (m := .dp) (φ := InR (0 : Int) x91.length) (by kernel_rfl) g197⟩,
    ⟨_, rfl, Stp.ev K (m := .dp) (φ := InR (0 : Int) x91.length) (by kernel_rfl) g197⟩,
    ⟨_, rfl, Stp.ev K (m := .dp) (φ := InR (0 : Int) x91.length) (by kernel_rfl) g197⟩,
    ⟨_, rfl, Stp.ev K (m := .dp) (φ := InR (0 : Int) x91.length) (by kernel_rfl) g197⟩,
    ⟨_, rfl, Stp.ev K (m := .dp) (φ := InR (0 : Int) x91.length) (by kernel_rfl) g197⟩,
    ⟨_, rfl, Stp.ev K (m := .dp) (φ := (0 : Int).toNat < x91.length) (by kernel_rfl) g198⟩,
    ⟨_, rfl, Stp.ev K (m := .dp) (φ := (0 : Int).toNat < x91.length) (by kernel_rfl) g198⟩,
    ⟨_, rfl, Stp.ev K (m := .dp) (φ := (0 : Int).toNat < x91.length) (by kernel_rfl) g198⟩,
    ⟨_, rfl, Stp.ev K (m := .dp) (φ := (0 : Int).toNat < x91.length) (by kernel_rfl) g198⟩,
    ⟨_, rfl, Stp.ev K (m := .dp) (φ := (0 : Int).toNat < x91.length) (by kernel_rfl) g198⟩,
    ⟨_, rfl, Stp.ev K (m := .dp) (φ := (0 : Int).toNat < x91.length) (by kernel_rfl) g198⟩,
    ⟨_, rfl, Stp.ev K (m := .dp) (φ := (0 : Int).toNat < x91.length) (by kernel_rfl) g198⟩,
    ⟨_, rfl, Stp.ev K (m := .dp) (φ := (0 : Int).toNat < x91.length) (by kernel_rfl) g198⟩,
    mT K,
    mT K,
    mT K,
    mT K,
    ⟨_, rfl, Stp.litAt 5 K (by kernel_rfl)⟩,
    ⟨_, rfl, Stp.litAt 5 K (by kernel_rfl)⟩,
    ⟨_, rfl, Stp.litAt 5 K (by kernel_rfl)⟩,
    ⟨_, rfl, Stp.litAt 5 K (by kernel_rfl)⟩,
    mT K,
    mT K,
    mT K,
    mT K,
    mT K,
    mT K,
    mT K,
    mT K,
    mT K,
    mT K,
    ⟨_, rfl, Stp.ev K (m := .dp) (φ := InR (1 : Int) x91.length) (by kernel_rfl) g199⟩,
    ⟨_, rfl, Stp.ev K (m := .dp) (φ := InR (1 : Int) x91.length) (by kernel_rfl) g199⟩,
    ⟨_, rfl, Stp.ev K (m := .dp) (φ := InR (1 : Int) x91.length) (by kernel_rfl) g199⟩,
    ⟨_, rfl, Stp.ev K (m := .dp) (φ := InR (1 : Int) x91.length) (by kernel_rfl) g199⟩,
    ⟨_, rfl, Stp.ev K (m := .dp) (φ := InR (1 : Int) x91.length) (by kernel_rfl) g199⟩,
    ⟨_, rfl, Stp.ev K (m := .dp) (φ := InR (1 : Int) x91.length) (by kernel_rfl) g199⟩,
    ⟨_, rfl, Stp.ev K (m := .dp) (φ := InR (1 : Int) x91.length) (by kernel_rfl) g199⟩,
    ⟨_, rfl, Stp.ev K (m := .dp) (φ := InR (1 : Int) x91.length) (by kernel_rfl) g199⟩,
    ⟨_, rfl, Stp.ev K (m := .dp) (φ := InR (1 : Int) x91.length) (by kernel_rfl) g199⟩,
    ⟨_, rfl, Stp.ev K (m := .dp) (φ := InR (1 : Int) x91.length) (by kernel_rfl) g199⟩,
    ⟨_, rfl, Stp.ev K (m := .dp) (φ := (1 : Int).toNat < x91.length) (by kernel_rfl) g200⟩,
    ⟨_, rfl, Stp.ev K (m := .dp) (φ := (1 : Int).toNat < x91.length) (by kernel_rfl) g200⟩,
    ⟨_, rfl, Stp.ev K (m := .dp) (φ := (1 : Int).toNat < x91.length) (by kernel_rfl) g200⟩,
    ⟨_, rfl, Stp.ev K (m := .dp) (φ := (1 : Int).toNat < x91.length) (by kernel_rfl) g200⟩,
    ⟨_, rfl, Stp.ev K (m := .dp) (φ := (1 : Int).toNat < x91.length) (by kernel_rfl) g200⟩,
    ⟨_, rfl, Stp.ev K (m := .dp) (φ := (1 : Int).toNat < x91.length) (by kernel_rfl) g200⟩,
    ⟨_, rfl, Stp.ev K (m := .dp) (φ := (1 : Int).toNat < x91.length) (by kernel_rfl) g200⟩,
    ⟨_, rfl, Stp.ev K (m := .dp) (φ := (1 : Int).toNat < x91.length) (by kernel_rfl) g200⟩,
    ⟨_, rfl, Stp.frz 3 (by kernel_rfl) (Stp.frz 4 (by kernel_rfl) (Stp.frz 5 (by kernel_rfl) (Stp.litAt 6 K (by kernel_rfl)) (by kernel_rfl)) (by kernel_rfl)) (by kernel_rfl)⟩,
    ⟨_, rfl, Stp.eq (Stp.call true [.t (.sl (.sl Y73))] [] K (d := some 126) (by kernel_rfl) (ok92 N _ hy201) rfl) (by kernel_rfl) (by kernel_rfl)⟩,
    mT K,
    mT K, trivial⟩ (by kernel_rfl) ?_
   cases h; exact VW.ret (rt [some 0])
  refine VW.join (fun s => ∃ x202, s = ⟨[(0, Vv (.sl Y77) a0), (1, Vv (.sl Y73) a1), (2, I a2), (10, .lf (.ptr 0 0 0 0)), (11, .lf (.ptr 1 0 0 0)), (12, hh 2), (13, hh 3), (59, I a2), (127, B x202)], [bx [zi x77, zs x78, zi x79, zi x80, zi x81, zb x82, .v (.sl (.int .i64)) x83] 74, bx [zi x84, zs x85, zi x86, zi x87, zi x88, zb x89, .v (.sl (.int .i64)) x90] 74, ar 0 (.int .i64) y3 .dp, ar 0 (.sl Y73) x91 .tp]⟩ ∧ F112_j3 N a0 a1 a2 x77 x78 x79 x80 x81 x82 x83 x84 x85 x86 x87 x88 x89 x90 x91 y3 x202 = some r) ?_ ?_
  ·refine nR K (tn 2) ?_
   refine cnd h ?_ ?_<;>intro h
   ·refine VW.skip ?_
    exact arv [.ren [0, 1, 2, 10, 11, 12, 13, 59, 127] [0, 1, 2, 3]] ⟨(a2 == (5 : Int)), rfl, h⟩
   refine nE K (tn 2) ?_
   exact arv [.ren [0, 1, 2, 10, 11, 12, 13, 59, 127] [0, 1, 2, 3]] ⟨(a2 == (6 : Int)), rfl, h⟩
  rintro s ⟨x202, rfl, h⟩
  unfold F112_j3 at h
  refine cnd h ?_ ?_<;>intro h
  ·refine sq <| VW.region ?_
   obtain⟨g203,h⟩:=gS h
   obtain⟨g204,h⟩:=gS h
   refine nG K 5 (pu 3 (an g203 (an g204 (tn 0)))) ?_
   obtain⟨y205,hy,h⟩:=aS h
   refine clc false [.t (.sl Y77), .t (.sl Y73), .t (.int .i64)] [] (some 135) K (ok41 N _ _ _ hy) <| nN K (tn 1) <| sq <| nR K (tn 2) ?_
   refine cnd h ?_ ?_<;>intro h
   ·refine sq <| VW.ghl [.ren [10, 11, 13, 17] [0, 1, 3]] ?_
    obtain⟨g211,h⟩:=gS h
    obtain⟨g212,h⟩:=gS h
    obtain⟨g213,h⟩:=gS h
    obtain⟨g214,h⟩:=gS h
    obtain⟨y215,hy215,h⟩:=aS h
    refine VW.gh (Gh.rsv Y73 .tp (by decide)) <| VW.gh (Gh.rsv Y73 .tp (by decide)) <| VW.gh (Gh.rsv (.sl Y73) .tp (by decide)) ?_
    refine VW.drawnM (by kernel_rfl) [some (138, .agg [zi x84, zs x85, zi x86, zi x87, zi x88, zb x89, .v (.sl (.int .i64)) x90]), some (139, .lf (.hd 3 1 none)), some (140, .agg [zi x77, zs x78, zi x79, zi x80, zi x81, zb x82, .v (.sl (.int .i64)) x83]), some (141, .lf (.hd 4 1 none)), some (142, hh 2), some (143, .lf (.ptr 2 0 ((0 : Int).toNat) 0)), some (144, Vv (.sl Y73) (x91.getD ((0 : Int).toNat) (Ty.dflt (.sl Y73)))), some (145, hh 2), some (146, .lf (.ptr 2 0 ((1 : Int).toNat) 0)), some (147, Vv (.sl Y73) (x91.getD ((1 : Int).toNat) (Ty.dflt (.sl Y73)))), some (148, .lf (.hd 5 1 none)), some (149, hh 6), some (150, .lf (.ptr 0 0 0 2)), some (151, I x79), some (152, I y205), some (153, B (decide (x79 < y205))), some (8, hh 6), some (9, B (decide (x79 < y205)))] [1, 3, 10, 11] [(0, [bx [zi x77, zs x78, zi x79, zi x80, zi x81, zb x82, .v (.sl (.int .i64)) x83] 74, bx [zi x84, zs x85, zi x86, zi x87, zi x88, zb x89, .v (.sl (.int .i64)) x90] 74, ar 0 (.sl Y73) x91 .tp, ar 0 Y73 ([]) .tp, ar 0 Y73 ([]) .tp, ar 0 (.sl Y73) ([]) .tp]), (1, [bx [zi x77, zs x78, zi x79, zi x80, zi x81, zb x82, .v (.sl (.int .i64)) x83] 74, bx [zi x84, zs x85, zi x86, zi x87, zi x88, zb x89, .v (.sl (.int .i64)) x90] 74, ar 0 (.sl Y73) x91 .tp, ar 1 Y73 ([(x84, (x85, (x86, (x87, (x88, (x89, x90))))))]) .tp, ar 0 Y73 ([]) .tp, ar 0 (.sl Y73) ([]) .tp]), (2, [bx [zi x77, zs x78, zi x79, zi x80, zi x81, zb x82, .v (.sl (.int .i64)) x83] 74, bx [zi x84, zs x85, zi x86, zi x87, zi x88, zb x89, .v (.sl (.int .i64)) x90] 74, ar 0 (.sl Y73) x91 .tp, ar 0 Y73 ([]) .tp, ar 1 Y73 ([(x77, (x78, (x79, (x80, (x81, (x82, x83))))))]) .tp, ar 0 (.sl Y73) ([]) .tp]), (3, [bx [zi x77, zs x78, zi x79, zi x80, zi x81, zb x82, .v (.sl (.int .i64)) x83] 74, bx [zi x84, zs x85, zi x86, zi x87, zi x88, zb x89, .v (.sl (.int .i64)) x90] 74, ar 0 (.sl Y73) x91 .tp, ar 1 Y73 ([(x84, (x85, (x86, (x87, (x88, (x89, x90))))))]) .tp, ar 1 Y73 ([(x77, (x78, (x79, (x80, (x81, (x82, x83))))))]) .tp, ar 0 (.sl Y73) ([]) .tp]), (7, [bx [zi x77, zs x78, zi x79, zi x80, zi x81, zb x82, .v (.sl (.int .i64)) x83] 74, bx [zi x84, zs x85, zi x86, zi x87, zi x88, zb x89, .v (.sl (.int .i64)) x90] 74, ar 0 (.sl Y73) x91 .tp, none, none, ar 1 (.sl Y73) ([[(x84, (x85, (x86, (x87, (x88, (x89, x90))))))], [(x77, (x78, (x79, (x80, (x81, (x82, x83))))))], (x91.getD ((0 : Int).toNat) (Ty.dflt (.sl Y73))), (x91.getD ((1 : Int).toNat) (Ty.dflt (.sl Y73)))]) .tp]), (15, [bx [zi x77, zs x78, zi x79, zi x80, zi x81, zb x82, .v (.sl (.int .i64)) x83] 74, bx [zi x84, zs x85, zi x86, zi x87, zi x88, zb x89, .v (.sl (.int .i64)) x90] 74, ar 0 (.sl Y73) x91 .tp, none, none, ar 1 (.sl Y73) ([[(x84, (x85, (x86, (x87, (x88, (x89, x90))))))], [(x77, (x78, (x79, (x80, (x81, (x82, x83))))))], (x91.getD ((0 : Int).toNat) (Ty.dflt (.sl Y73))), (x91.getD ((1 : Int).toNat) (Ty.dflt (.sl Y73)))]) .tp, ar 0 Y73 y215 .dp])] [(0, 0), (0, 2), (1, 0), (1, 2), (2, 0), (2, 1), (3, 0), (3, 1), (4, 0), (4, 1), (4, 2), (4, 3), (4, 7), (4, 15), (5, 0), (5, 1), (5, 2), (5, 3), (5, 7), (5, 15), (6, 0), (6, 1), (6, 2), (6, 3), (7, 0), (7, 1), (7, 2), (7, 3), (7, 7), (7, 15), (8, 0), (8, 1), (8, 2), (8, 3), (8, 7), (8, 15), (9, 0), (9, 1), (9, 2), (9, 3), (10, 3), (11, 7), (12, 0), (12, 1), (12, 2), (12, 3), (12, 7), (12, 15), (13, 0), (13, 1), (13, 2), (13, 3), (13, 7), (13, 15), (14, 0), (14, 1), (14, 2), (14, 3), (14, 7), (14, 15), (15, 0), (15, 1), (15, 2), (15, 3), (15, 7), (15, 15), (16, 15), (17, 15)] [8, 9] [6] (s' := ⟨[(8, hh 0), (9, B (decide (x79 < y205)))], [ar 0 Y73 y215 .dp]⟩) (by kernel_rfl) (by kernel_rfl) ⟨mT K,
    mT K,
    ⟨_, rfl, Stp.litAt 3 K (by kernel_rfl)⟩,
    ⟨_, rfl, Stp.litAt 3 K (by kernel_rfl)⟩,
    mT K,
    mT K,
    ⟨_, rfl, Stp.litAt 4 K (by kernel_rfl)⟩,
    ⟨_, rfl, Stp.litAt 4 K (by kernel_rfl)⟩,
    mT K,
    mT K,
    mT K,
    mT K,
    mT K,
    mT K,
    ⟨_, rfl, Stp.ev K (m := .dp) (φ := InR (0 : Int) x91.length) (by kernel_rfl) g211⟩,
    ⟨_, rfl, Stp.ev K (m := .dp) (φ := InR (0 : Int) x91.length) (by kernel_rfl) g211⟩,
    ⟨_, rfl, Stp.ev K (m := .dp) (φ := InR (0 : Int) x91.length) (by kernel_rfl) g211⟩,
    ⟨_, rfl, Stp.ev K (m := .dp) (φ := InR (0 : Int) x91.length) (by kernel_rfl) g211⟩,
    ⟨_, rfl, Stp.ev K (m := .dp) (φ := InR (0 : Int) x91.length) (by kernel_rfl) g211⟩,
    ⟨_, rfl, Stp.ev K (m := .dp) (φ := InR (0 : Int) x91.length) (by kernel_rfl) g211⟩,
    ⟨_, rfl, Stp.ev K (m := .dp) (φ := (0 : Int).toNat < x91.length) (by kernel_rfl) g212⟩,
    ⟨_, rfl, Stp.ev K (m := .dp) (φ := (0 : Int).toNat < x91.length) (by kernel_rfl) g212⟩,
    ⟨_, rfl, Stp.ev K (m := .dp) (φ := (0 : Int).toNat < x91.length) (by kernel_rfl) g212⟩,
    ⟨_, rfl, Stp.ev K (m := .dp) (φ := (0 : Int).toNat < x91.length) (by kernel_rfl) g212⟩,
    mT K,
    mT K,
    mT K,
    mT K,
    mT K,
    mT K,
    ⟨_, rfl, Stp.ev K (m := .dp) (φ := InR (1 : Int) x91.length) (by kernel_rfl) g213⟩,
    ⟨_, rfl, Stp.ev K (m := .dp) (φ := InR (1 : Int) x91.length) (by kernel_rfl) g213⟩,
    ⟨_, rfl, Stp.ev K (m := .dp) (φ := InR (1 : Int) x91.length) (by kernel_rfl) g213⟩,
    ⟨_, rfl, Stp.ev K (m := .dp) (φ := InR (1 : Int) x91.length) (by kernel_rfl) g213⟩,
    ⟨_, rfl, Stp.ev K (m := .dp) (φ := InR (1 : Int) x91.length) (by kernel_rfl) g213⟩,
    ⟨_, rfl, Stp.ev K (m := .dp) (φ := InR (1 : Int) x91.length) (by kernel_rfl) g213⟩,
    ⟨_, rfl, Stp.ev K (m := .dp) (φ := (1 : Int).toNat < x91.length) (by kernel_rfl) g214⟩,
    ⟨_, rfl, Stp.ev K (m := .dp) (φ := (1 : Int).toNat < x91.length) (by kernel_rfl) g214⟩,
    ⟨_, rfl, Stp.ev K (m := .dp) (φ := (1 : Int).toNat < x91.length) (by kernel_rfl) g214⟩,
    ⟨_, rfl, Stp.ev K (m := .dp) (φ := (1 : Int).toNat < x91.length) (by kernel_rfl) g214⟩,
    ⟨_, rfl, Stp.frz 3 (by kernel_rfl) (Stp.frz 4 (by kernel_rfl) (Stp.litAt 5 K (by kernel_rfl)) (by kernel_rfl)) (by kernel_rfl)⟩,
    ⟨_, rfl, Stp.eq (Stp.call true [.t (.sl (.sl Y73))] [] K (d := some 149) (by kernel_rfl) (ok92 N _ hy215) rfl) (by kernel_rfl) (by kernel_rfl)⟩,
    mT K,
    mT K,
    mT K,
    mT K,
    mT K,
    mT K,
    mT K,
    mT K,
    mT K,
    mT K,
    mT K,
    mT K,
    mT K,
    mT K,
    mT K,
    mT K,
    mT K,
    mT K,
    mT K,
    mT K,
    mT K,
    mT K,
    mT K,
    mT K,
    mT K,
    mT K, trivial⟩ (by kernel_rfl) ?_
    cases h; exact VW.ret (rt [some 0])
   refine VW.skip <| nR K (tn 6) <| sq <| VW.ghl [.ren [10, 11, 13] [0, 1, 3]] ?_
   obtain⟨g216,h⟩:=gS h
   obtain⟨g217,h⟩:=gS h
   obtain⟨g218,h⟩:=gS h
   obtain⟨g219,h⟩:=gS h
   obtain⟨y220,hy220,h⟩:=aS h
   refine VW.gh (Gh.rsv Y73 .tp (by decide)) <| VW.gh (Gh.rsv Y73 .tp (by decide)) <| VW.gh (Gh.rsv (.sl Y73) .tp (by decide)) ?_
   refine VW.drawnM (by kernel_rfl) [some (159, .agg [zi x84, zs x85, zi x86, zi x87, zi x88, zb x89, .v (.sl (.int .i64)) x90]), some (160, .lf (.hd 3 1 none)), some (161, hh 2), some (162, .lf (.ptr 2 0 ((0 : Int).toNat) 0)), some (163, Vv (.sl Y73) (x91.getD ((0 : Int).toNat) (Ty.dflt (.sl Y73)))), some (164, .agg [zi x77, zs x78, zi (wr (x79 - y205)), zi x80, zi x81, zb x82, .v (.sl (.int .i64)) x83]), some (165, .lf (.hd 4 1 none)), some (166, hh 2), some (167, .lf (.ptr 2 0 ((1 : Int).toNat) 0)), some (168, Vv (.sl Y73) (x91.getD ((1 : Int).toNat) (Ty.dflt (.sl Y73)))), some (169, .lf (.hd 5 1 none)), some (170, hh 6), some (171, .lf (.ptr 0 0 0 2)), some (172, I (wr (x79 - y205))), some (173, B (decide ((wr (x79 - y205)) ≥ (0 : Int)))), some (8, hh 6), some (9, B (decide ((wr (x79 - y205)) ≥ (0 : Int))))] [1, 6, 10, 11] [(0, [bx [zi x77, zs x78, zi (wr (x79 - y205)), zi x80, zi x81, zb x82, .v (.sl (.int .i64)) x83] 74, bx [zi x84, zs x85, zi x86, zi x87, zi x88, zb x89, .v (.sl (.int .i64)) x90] 74, ar 0 (.sl Y73) x91 .tp, ar 0 Y73 ([]) .tp, ar 0 Y73 ([]) .tp, ar 0 (.sl Y73) ([]) .tp]), (1, [bx [zi x77, zs x78, zi (wr (x79 - y205)), zi x80, zi x81, zb x82, .v (.sl (.int .i64)) x83] 74, bx [zi x84, zs x85, zi x86, zi x87, zi x88, zb x89, .v (.sl (.int .i64)) x90] 74, ar 0 (.sl Y73) x91 .tp, ar 1 Y73 ([(x84, (x85, (x86, (x87, (x88, (x89, x90))))))]) .tp, ar 0 Y73 ([]) .tp, ar 0 (.sl Y73) ([]) .tp]), (2, [bx [zi x77, zs x78, zi (wr (x79 - y205)), zi x80, zi x81, zb x82, .v (.sl (.int .i64)) x83] 74, bx [zi x84, zs x85, zi x86, zi x87, zi x88, zb x89, .v (.sl (.int .i64)) x90] 74, ar 0 (.sl Y73) x91 .tp, ar 0 Y73 ([]) .tp, ar 1 Y73 ([(x77, (x78, ((wr (x79 - y205)), (x80, (x81, (x82, x83))))))]) .tp, ar 0 (.sl Y73) ([]) .tp]), (3, [bx [zi x77, zs x78, zi (wr (x79 - y205)), zi x80, zi x81, zb x82, .v (.sl (.int .i64)) x83] 74, bx [zi x84, zs x85, zi x86, zi x87, zi x88, zb x89, .v (.sl (.int .i64)) x90] 74, ar 0 (.sl Y73) x91 .tp, ar 1 Y73 ([(x84, (x85, (x86, (x87, (x88, (x89, x90))))))]) .tp, ar 1 Y73 ([(x77, (x78, ((wr (x79 - y205)), (x80, (x81, (x82, x83))))))]) .tp, ar 0 (.sl Y73) ([]) .tp]), (7, [bx [zi x77, zs x78, zi (wr (x79 - y205)), zi x80, zi x81, zb x82, .v (.sl (.int .i64)) x83] 74, bx [zi x84, zs x85, zi x86, zi x87, zi x88, zb x89, .v (.sl (.int .i64)) x90] 74, ar 0 (.sl Y73) x91 .tp, none, none, ar 1 (.sl Y73) ([[(x84, (x85, (x86, (x87, (x88, (x89, x90))))))], (x91.getD ((0 : Int).toNat) (Ty.dflt (.sl Y73))), [(x77, (x78, ((wr (x79 - y205)), (x80, (x81, (x82, x83))))))], (x91.getD ((1 : Int).toNat) (Ty.dflt (.sl Y73)))]) .tp]), (15, [bx [zi x77, zs x78, zi (wr (x79 - y205)), zi x80, zi x81, zb x82, .v (.sl (.int .i64)) x83] 74, bx [zi x84, zs x85, zi x86, zi x87, zi x88, zb x89, .v (.sl (.int .i64)) x90] 74, ar 0 (.sl Y73) x91 .tp, none, none, ar 1 (.sl Y73) ([[(x84, (x85, (x86, (x87, (x88, (x89, x90))))))], (x91.getD ((0 : Int).toNat) (Ty.dflt (.sl Y73))), [(x77, (x78, ((wr (x79 - y205)), (x80, (x81, (x82, x83))))))], (x91.getD ((1 : Int).toNat) (Ty.dflt (.sl Y73)))]) .tp, ar 0 Y73 y220 .dp])] [(0, 0), (0, 2), (1, 0), (1, 2), (2, 0), (2, 1), (2, 2), (2, 3), (2, 7), (2, 15), (3, 0), (3, 1), (3, 2), (3, 3), (3, 7), (3, 15), (4, 0), (4, 1), (4, 2), (4, 3), (5, 0), (5, 1), (6, 0), (6, 1), (7, 0), (7, 1), (7, 2), (7, 3), (7, 7), (7, 15), (8, 0), (8, 1), (8, 2), (8, 3), (8, 7), (8, 15), (9, 0), (9, 1), (9, 2), (9, 3), (10, 3), (11, 7), (12, 0), (12, 1), (12, 2), (12, 3), (12, 7), (12, 15), (13, 0), (13, 1), (13, 2), (13, 3), (13, 7), (13, 15), (14, 0), (14, 1), (14, 2), (14, 3), (14, 7), (14, 15), (15, 15), (16, 15)] [8, 9] [6] (s' := ⟨[(8, hh 0), (9, B (decide ((wr (x79 - y205)) ≥ (0 : Int))))], [ar 0 Y73 y220 .dp]⟩) (by kernel_rfl) (by kernel_rfl) ⟨mT K,
    mT K,
    ⟨_, rfl, Stp.litAt 3 K (by kernel_rfl)⟩,
    ⟨_, rfl, Stp.litAt 3 K (by kernel_rfl)⟩,
    mT K,
    mT K,
    mT K,
    mT K,
    mT K,
    mT K,
    ⟨_, rfl, Stp.ev K (m := .dp) (φ := InR (0 : Int) x91.length) (by kernel_rfl) g216⟩,
    ⟨_, rfl, Stp.ev K (m := .dp) (φ := InR (0 : Int) x91.length) (by kernel_rfl) g216⟩,
    ⟨_, rfl, Stp.ev K (m := .dp) (φ := InR (0 : Int) x91.length) (by kernel_rfl) g216⟩,
    ⟨_, rfl, Stp.ev K (m := .dp) (φ := InR (0 : Int) x91.length) (by kernel_rfl) g216⟩,
    ⟨_, rfl, Stp.ev K (m := .dp) (φ := InR (0 : Int) x91.length) (by kernel_rfl) g216⟩,
    ⟨_, rfl, Stp.ev K (m := .dp) (φ := InR (0 : Int) x91.length) (by kernel_rfl) g216⟩,
    ⟨_, rfl, Stp.ev K (m := .dp) (φ := (0 : Int).toNat < x91.length) (by kernel_rfl) g217⟩,
    ⟨_, rfl, Stp.ev K (m := .dp) (φ := (0 : Int).toNat < x91.length) (by kernel_rfl) g217⟩,
    ⟨_, rfl, Stp.ev K (m := .dp) (φ := (0 : Int).toNat < x91.length) (by kernel_rfl) g217⟩,
    ⟨_, rfl, Stp.ev K (m := .dp) (φ := (0 : Int).toNat < x91.length) (by kernel_rfl) g217⟩,
    mT K,
    mT K,
    ⟨_, rfl, Stp.litAt 4 K (by kernel_rfl)⟩,
    ⟨_, rfl, Stp.litAt 4 K (by kernel_rfl)⟩,
    mT K,
    mT K,
    mT K,
    mT K,
    mT K,
    mT K,
    ⟨_, rfl, Stp.ev K (m := .dp) (φ := InR (1 : Int) x91.length) (by kernel_rfl) g218⟩,
    ⟨_, rfl, Stp.ev K (m := .dp) (φ := InR (1 : Int) x91.length) (by kernel_rfl) g218⟩,
    ⟨_, rfl, Stp.ev K (m := .dp) (φ := InR (1 : Int) x91.length) (by kernel_rfl) g218⟩,
    ⟨_, rfl, Stp.ev K (m := .dp) (φ := InR (1 : Int) x91.length) (by kernel_rfl) g218⟩,
    ⟨_, rfl, Stp.ev K (m := .dp) (φ := InR (1 : Int) x91.length) (by kernel_rfl) g218⟩,
    ⟨_, rfl, Stp.ev K (m := .dp) (φ := InR (1 : Int) x91.length) (by kernel_rfl) g218⟩,
    ⟨_, rfl, Stp.ev K (m := .dp) (φ := (1 : Int).toNat < x91.length) (by kernel_rfl) g219⟩,
    ⟨_, rfl, Stp.ev K (m := .dp) (φ := (1 : Int).toNat < x91.length) (by kernel_rfl) g219⟩,
    ⟨_, rfl, Stp.ev K (m := .dp) (φ := (1 : Int).toNat < x91.length) (by kernel_rfl) g219⟩,
    ⟨_, rfl, Stp.ev K (m := .dp) (φ := (1 : Int).toNat < x91.length) (by kernel_rfl) g219⟩,
    ⟨_, rfl, Stp.frz 3 (by kernel_rfl) (Stp.frz 4 (by kernel_rfl) (Stp.litAt 5 K (by kernel_rfl)) (by kernel_rfl)) (by kernel_rfl)⟩,
    ⟨_, rfl, Stp.eq (Stp.call true [.t (.sl (.sl Y73))] [] K (d := some 170) (by kernel_rfl) (ok92 N _ hy220) rfl) (by kernel_rfl) (by kernel_rfl)⟩,
    mT K,
    mT K,
    mT K,
    mT K,
    mT K,
    mT K,
    mT K,
    mT K,
    mT K,
    mT K,
    mT K,
    mT K,
    mT K,
    mT K,
    mT K,
    mT K,
    mT K,
    mT K,
    mT K,
    mT K, trivial⟩ (by kernel_rfl) ?_
   cases h; exact VW.ret (rt [some 0])
  refine nR K (tn 2) ?_
  refine cnd h ?_ ?_<;>intro h
  ·refine sq ?_
   obtain⟨g221,h⟩:=gS h
   obtain⟨g222,h⟩:=gS h
   obtain⟨y223,hy223,h⟩:=aS h
   refine dr K [(5, .ev [4]), (6, .cl [] (some 182) [.lf (.own Y73 y223 .dp)])] [(5, 1), (6, 2)] [1, 5, 6] [8, 9] [6] (pu 3 (an g221 (an g222 (tn 4)))) ⟨qE [4] K trivial, qC true [.t (.sl (.sl Y73))] [] [] (some 182) K (ok92 N _ hy223), trivial⟩ ?_
   cases h; exact VW.ret (rt [some 0])
  refine nR K (tn 2) ?_
  refine cnd h ?_ ?_<;>intro h
  ·refine nR K (tn 2) ?_
   refine VW.join (fun s => ∃ x245, s = ⟨[(10, .lf (.ptr 0 0 0 0)), (13, hh 1), (18, hh 2)], [bx [zi x77, zs x78, zi x79, zi x80, zi x81, zb x82, .v (.sl (.int .i64)) x83] 74, ar 0 (.sl Y73) x91 .tp, ar 0 (.int .i64) x245 .dp]⟩ ∧ F112_j2 N x77 x78 x79 x80 x81 x82 x91 x245 = some r) ?_ ?_
   ·refine nR K (tn 1) <| VW.block <| lop (fun k s => ∃ x256 x257, s = ⟨[(10, .lf (.ptr 0 0 0 0)), (11, .lf (.ptr 1 0 0 0)), (13, hh 2), (18, hh 3), (19, I x257)], [bx [zi x77, zs x78, zi x79, zi x80, zi x81, zb x82, .v (.sl (.int .i64)) x83] 74, bx [zi x84, zs x85, zi x86, zi x87, zi x88, zb x89, .v (.sl (.int .i64)) x90] 74, ar 0 (.sl Y73) x91 .tp, ar 0 (.int .i64) x256 .dp]⟩ ∧ F112_l0 N x77 x78 x79 x80 x81 x82 x83 x90 x91 k x256 x257 = some r) N [.nilS 18 (.int .i64) .dp, .ren [10, 11, 13, 18, 19] [0, 1, 3, 4]] ⟨[], (0 : Int), rfl, h⟩ ?_
    rintro k264 s ⟨x256, x257, rfl, h⟩
    cases k264 with
    | zero => cases show none = some r from h
    | succ k264 =>
     replace h : F112_l0_b N x77 x78 x79 x80 x81 x82 x83 x90 x91 (F112_l0 N x77 x78 x79 x80 x81 x82 x83 x90 x91 k264) x256 x257 = some r := h
     unfold F112_l0_b at h
     refine sq <| nR K (tn 5) ?_
     refine cnd h ?_ ?_<;>intro h
     ·refine VW.skip <| sq <| VW.block ?_
      obtain⟨g268,h⟩:=gS h
      obtain⟨g269,h⟩:=gS h
      obtain⟨g270,h⟩:=gS h
      refine dr K [] [] [10, 11] [10, 11, 13, 18, 19] [0, 1, 2, 3] (pu 6 (an g268 (pu 1 (an g269 (pu 2 (an g270 (tn 1))))))) trivial <| nE K (tn 3) ?_
      exact aro [.ren [10, 11, 13, 18, 19] [0, 1, 2, 3]] ⟨(x256 ++ ([(x90.getD (x83.getD x257.toNat (Ty.dflt (.int .i64))).toNat (Ty.dflt (.int .i64)))])), (wr (x257 + (1 : Int))), rfl, h⟩
     refine VW.exit ?_
     exact arv [.ren [10, 13, 18] [0, 2, 3]] ⟨x256, rfl, h⟩
   rintro s ⟨x245, rfl, h⟩
   unfold F112_j2 at h
   refine nR K (tn 3) <| sq <| VW.ghl [.ren [10, 13] [0, 2, 1]] ?_
   obtain⟨g246,h⟩:=gS h
   obtain⟨g247,h⟩:=gS h
   obtain⟨y248,hy248,h⟩:=aS h
   refine VW.drawn (by kernel_rfl) [some (207, .agg [zi x77, zs x78, zi x79, zi x80, zi x81, zb x82, .hd 1 0 none]), some (208, hh 3), some (209, hh 2), some (210, .lf (.ptr 2 0 ((0 : Int).toNat) 0)), some (211, Vv (.sl Y73) (x91.getD ((0 : Int).toNat) (Ty.dflt (.sl Y73)))), some (212, hh 4), some (213, hh 5), some (8, hh 5), some (9, B true)] [1, 5, 6] [[bx [zi x77, zs x78, zi x79, zi x80, zi x81, zb x82, .hd 1 0 none] 74, ar 0 (.int .i64) x245 .dp, ar 0 (.sl Y73) x91 .tp], [bx [zi x77, zs x78, zi x79, zi x80, zi x81, zb x82, .hd 1 0 none] 74, none, ar 0 (.sl Y73) x91 .tp, ar 0 Y73 ([(x77, (x78, (x79, (x80, (x81, (x82, x245))))))]) .dp], [bx [zi x77, zs x78, zi x79, zi x80, zi x81, zb x82, .hd 1 0 none] 74, none, ar 0 (.sl Y73) x91 .tp, none, ar 0 (.sl Y73) ([[(x77, (x78, (x79, (x80, (x81, (x82, x245))))))], (x91.getD ((0 : Int).toNat) (Ty.dflt (.sl Y73)))]) .tp], [bx [zi x77, zs x78, zi x79, zi x80, zi x81, zb x82, .hd 1 0 none] 74, none, ar 0 (.sl Y73) x91 .tp, none, ar 0 (.sl Y73) ([[(x77, (x78, (x79, (x80, (x81, (x82, x245))))))], (x91.getD ((0 : Int).toNat) (Ty.dflt (.sl Y73)))]) .tp, ar 0 Y73 y248 .dp]] [(0, 0), (1, 0), (2, 0), (2, 1), (2, 2), (2, 3), (3, 0), (3, 1), (3, 2), (3, 3), (4, 0), (4, 1), (5, 1), (6, 2), (7, 3), (8, 3)] [8, 9] [5] (s' := ⟨[(8, hh 0), (9, B true)], [ar 0 Y73 y248 .dp]⟩) (by kernel_rfl) (by kernel_rfl) ⟨qT K,
    ⟨_, rfl, Stp.litA K (by kernel_rfl)⟩,
    qT K,
    qT K,
    qT K,
    qT K,
    ⟨_, rfl, Stp.ev K (m := .dp) (φ := InR (0 : Int) x91.length) (by kernel_rfl) g246⟩,
    ⟨_, rfl, Stp.ev K (m := .dp) (φ := InR (0 : Int) x91.length) (by kernel_rfl) g246⟩,
    ⟨_, rfl, Stp.ev K (m := .dp) (φ := InR (0 : Int) x91.length) (by kernel_rfl) g246⟩,
    ⟨_, rfl, Stp.ev K (m := .dp) (φ := InR (0 : Int) x91.length) (by kernel_rfl) g246⟩,
    ⟨_, rfl, Stp.ev K (m := .dp) (φ := (0 : Int).toNat < x91.length) (by kernel_rfl) g247⟩,
    ⟨_, rfl, Stp.ev K (m := .dp) (φ := (0 : Int).toNat < x91.length) (by kernel_rfl) g247⟩,
    ⟨_, rfl, Stp.frz 3 (by kernel_rfl) (Stp.ev K (m := .dp) (φ := True) (by kernel_rfl) trivial) (by kernel_rfl)⟩,
    ⟨_, rfl, Stp.eq (Stp.call true [.t (.sl (.sl Y73))] [] K (d := some 213) (by kernel_rfl) (ok92 N _ hy248) rfl) (by kernel_rfl) (by kernel_rfl)⟩,
    qT K,
    qT K, trivial⟩ (by kernel_rfl) ?_
   cases h; exact VW.ret (rt [some 0])
  refine VW.skip ?_
  exact arv [.ren [10, 11, 13] [0, 1, 3]] ⟨rfl, h⟩
 rintro s ⟨rfl, h⟩
 unfold F112_j0 at h
 obtain⟨g180,h⟩:=gS h
 refine nR K (pu 4 (an g180 (tn 3))) <| sq <| VW.ghl [.ren [10, 11, 13] [0, 1, 2]] ?_
 obtain⟨g181,h⟩:=gS h
 obtain⟨g182,h⟩:=gS h
 obtain⟨y183,hy183,h⟩:=aS h
 refine VW.gh (Gh.rsv Y73 .tp (by decide)) <| VW.gh (Gh.rsv Y73 .tp (by decide)) <| VW.gh (Gh.rsv (.sl Y73) .tp (by decide)) ?_
 refine VW.drawnM (by kernel_rfl) [some (221, .agg [zi x84, zs x85, zi x86, zi x87, zi x88, zb x89, .v (.sl (.int .i64)) x90]), some (222, .lf (.hd 3 1 none)), some (223, .agg [zi x77, zs x78, zi (x90.getD x79.toNat (Ty.dflt (.int .i64))), zi x80, zi x81, zb x82, .v (.sl (.int .i64)) x83]), some (224, .lf (.hd 4 1 none)), some (225, hh 2), some (226, .lf (.ptr 2 0 ((0 : Int).toNat) 0)), some (227, Vv (.sl Y73) (x91.getD ((0 : Int).toNat) (Ty.dflt (.sl Y73)))), some (228, .lf (.hd 5 1 none)), some (229, hh 6), some (8, hh 6), some (9, B true)] [1, 3, 7, 8] [(0, [bx [zi x77, zs x78, zi (x90.getD x79.toNat (Ty.dflt (.int .i64))), zi x80, zi x81, zb x82, .v (.sl (.int .i64)) x83] 74, bx [zi x84, zs x85, zi x86, zi x87, zi x88, zb x89, .v (.sl (.int .i64)) x90] 74, ar 0 (.sl Y73) x91 .tp, ar 0 Y73 ([]) .tp, ar 0 Y73 ([]) .tp, ar 0 (.sl Y73) ([]) .tp]), (1, [bx [zi x77, zs x78, zi (x90.getD x79.toNat (Ty.dflt (.int .i64))), zi x80, zi x81, zb x82, .v (.sl (.int .i64)) x83] 74, bx [zi x84, zs x85, zi x86, zi x87, zi x88, zb x89, .v (.sl (.int .i64)) x90] 74, ar 0 (.sl Y73) x91 .tp, ar 1 Y73 ([(x84, (x85, (x86, (x87, (x88, (x89, x90))))))]) .tp, ar 0 Y73 ([]) .tp, ar 0 (.sl Y73) ([]) .tp]), (2, [bx [zi x77, zs x78, zi (x90.getD x79.toNat (Ty.dflt (.int .i64))), zi x80, zi x81, zb x82, .v (.sl (.int .i64)) x83] 74, bx [zi x84, zs x85, zi x86, zi x87, zi x88, zb x89, .v (.sl (.int .i64)) x90] 74, ar 0 (.sl Y73) x91 .tp, ar 0 Y73 ([]) .tp, ar 1 Y73 ([(x77, (x78, ((x90.getD x79.toNat (Ty.dflt (.int .i64))), (x80, (x81, (x82, x83))))))]) .tp, ar 0 (.sl Y73) ([]) .tp]), (3, [bx [zi x77, zs x78, zi (x90.getD x79.toNat (Ty.dflt (.int .i64))), zi x80, zi x81, zb x82, .v (.sl (.int .i64)) x83] 74, bx [zi x84, zs x85, zi x86, zi x87, zi x88, zb x89, .v (.sl (.int .i64)) x90] 74, ar 0 (.sl Y73) x91 .tp, ar 1 Y73 ([(x84, (x85, (x86, (x87, (x88, (x89, x90))))))]) .tp, ar 1 Y73 ([(x77, (x78, ((x90.getD x79.toNat (Ty.dflt (.int .i64))), (x80, (x81, (x82, x83))))))]) .tp, ar 0 (.sl Y73) ([]) .tp]), (7, [bx [zi x77, zs x78, zi (x90.getD x79.toNat (Ty.dflt (.int .i64))), zi x80, zi x81, zb x82, .v (.sl (.int .i64)) x83] 74, bx [zi x84, zs x85, zi x86, zi x87, zi x88, zb x89, .v (.sl (.int .i64)) x90] 74, ar 0 (.sl Y73) x91 .tp, none, none, ar 1 (.sl Y73) ([[(x84, (x85, (x86, (x87, (x88, (x89, x90))))))], [(x77, (x78, ((x90.getD x79.toNat (Ty.dflt (.int .i64))), (x80, (x81, (x82, x83))))))], (x91.getD ((0 : Int).toNat) (Ty.dflt (.sl Y73)))]) .tp]), (15, [bx [zi x77, zs x78, zi (x90.getD x79.toNat (Ty.dflt (.int .i64))), zi x80, zi x81, zb x82, .v (.sl (.int .i64)) x83] 74, bx [zi x84, zs x85, zi x86, zi x87, zi x88, zb x89, .v (.sl (.int .i64)) x90] 74, ar 0 (.sl Y73) x91 .tp, none, none, ar 1 (.sl Y73) ([[(x84, (x85, (x86, (x87, (x88, (x89, x90))))))], [(x77, (x78, ((x90.getD x79.toNat (Ty.dflt (.int .i64))), (x80, (x81, (x82, x83))))))], (x91.getD ((0 : Int).toNat) (Ty.dflt (.sl Y73)))]) .tp, ar 0 Y73 y183 .dp])] [(0, 0), (0, 2), (1, 0), (1, 2), (2, 0), (2, 1), (3, 0), (3, 1), (4, 0), (4, 1), (4, 2), (4, 3), (4, 7), (4, 15), (5, 0), (5, 1), (5, 2), (5, 3), (5, 7), (5, 15), (6, 0), (6, 1), (6, 2), (6, 3), (7, 3), (8, 7), (9, 15), (10, 15)] [8, 9] [6] (s' := ⟨[(8, hh 0), (9, B true)], [ar 0 Y73 y183 .dp]⟩) (by kernel_rfl) (by kernel_rfl) ⟨mT K,
    mT K,
    ⟨_, rfl, Stp.litAt 3 K (by kernel_rfl)⟩,
    ⟨_, rfl, Stp.litAt 3 K (by kernel_rfl)⟩,
    mT K,
    mT K,
    ⟨_, rfl, Stp.litAt 4 K (by kernel_rfl)⟩,
    ⟨_, rfl, Stp.litAt 4 K (by kernel_rfl)⟩,
    mT K,
    mT K,
    mT K,
    mT K,
    mT K,
    mT K,
    ⟨_, rfl, Stp.ev K (m := .dp) (φ := InR (0 : Int) x91.length) (by kernel_rfl) g181⟩,
    ⟨_, rfl, Stp.ev K (m := .dp) (φ := InR (0 : Int) x91.length) (by kernel_rfl) g181⟩,
    ⟨_, rfl, Stp.ev K (m := .dp) (φ := InR (0 : Int) x91.length) (by kernel_rfl) g181⟩,
    ⟨_, rfl, Stp.ev K (m := .dp) (φ := InR (0 : Int) x91.length) (by kernel_rfl) g181⟩,
    ⟨_, rfl, Stp.ev K (m := .dp) (φ := InR (0 : Int) x91.length) (by kernel_rfl) g181⟩,
    ⟨_, rfl, Stp.ev K (m := .dp) (φ := InR (0 : Int) x91.length) (by kernel_rfl) g181⟩,
    ⟨_, rfl, Stp.ev K (m := .dp) (φ := (0 : Int).toNat < x91.length) (by kernel_rfl) g182⟩,
    ⟨_, rfl, Stp.ev K (m := .dp) (φ := (0 : Int).toNat < x91.length) (by kernel_rfl) g182⟩,
    ⟨_, rfl, Stp.ev K (m := .dp) (φ := (0 : Int).toNat < x91.length) (by kernel_rfl) g182⟩,
    ⟨_, rfl, Stp.ev K (m := .dp) (φ := (0 : Int).toNat < x91.length) (by kernel_rfl) g182⟩,
    ⟨_, rfl, Stp.frz 3 (by kernel_rfl) (Stp.frz 4 (by kernel_rfl) (Stp.litAt 5 K (by kernel_rfl)) (by kernel_rfl)) (by kernel_rfl)⟩,
    ⟨_, rfl, Stp.eq (Stp.call true [.t (.sl (.sl Y73))] [] K (d := some 229) (by kernel_rfl) (ok92 N _ hy183) rfl) (by kernel_rfl) (by kernel_rfl)⟩,
    mT K,
    mT K, trivial⟩ (by kernel_rfl) ?_
 cases h; exact VW.ret (rt [some 0])
def F70 (N : Nat) (a0 : (List Z77)) (a1 : (List Z73)) (a2 : Z53) : Option ((List Z73) × Bool) :=
  andO (F69 N a1) fun y1 => andO (F25 N a0 a1) fun y5 => cond (!y5) (some (y1, false)) (andO (F64 N a2.1 (0 : Int) (11 : Int)) fun y6 => cond (!y6) (some (y1, false)) (andO (F64 N a2.2 (0 : Int) (IntKind.i64.wrap ((a1.length : Int) - (2 : Int)))) fun y7 => cond (!y7) (some (y1, false)) (andO (F111 N a2.1) fun y8 => gd (InR a2.2 a1.length) (cond (((a1.getD a2.2.toNat (Ty.dflt Y73)).1) != y8.1) (some (y1, false)) (gd (InR (IntKind.i64.wrap (a2.2 + (1 : Int))) a1.length) (cond (((a1.getD (IntKind.i64.wrap (a2.2 + (1 : Int))).toNat (Ty.dflt Y73)).1) != y8.2) (some (y1, false)) (andO (F112 N a0 a1 a2.1 a2.2) fun y13 => cond (!y13.2) (some (y1, false)) (andO (F88 N a1 a2.2 (10 : Int)) fun y14 => gd (0 ≤ a2.2 ∧ a2.2 ≤ (a1.length : Int)) (gd (0 ≤ y14.1 ∧ y14.1 ≤ (a1.length : Int)) (andO (F92 N ([(a1.take a2.2.toNat), y13.1, (a1.drop y14.1.toNat)])) fun y17 => andO (F40 N y17) fun y19 => cond (!y19) (some (y1, false)) (some (y17, true))))))))))))
theorem ok70 N a0 a1 a2 {r} (h : F70 N a0 a1 a2 = some r) : Con prog 70 [Vv (.sl Y77) a0, Vv (.sl Y73) a1, .agg (lv Y53 a2)] [.lf (.own Y73 r.1 .dp), .lf (.v .bool r.2)] := by
 refine ctr [.lf (.own Y73 .dp), .lf (.v .bool)] K func70 rfl fun w0 E0 ht => ?_
 unfold F70 at h
 show VW _ _ _ _ _ (retQ _ _ _ _) _
 refine nR K (tn 3) <| sq <| VW.region <| nG K 1 (tn 1) ?_
 obtain⟨y1,hy,h⟩:=aS h
 refine clc false [.t (.sl Y73)] [] (some 17) K (ok69 N _ hy) <| nN K (tn 1) <| sq <| sq <| VW.region <| nG K 2 (tn 2) ?_
 obtain⟨y5,hy,h⟩:=aS h
 refine clc false [.t (.sl Y77), .t (.sl Y73)] [] (some 20) K (ok25 N _ _ hy) <| nG K 2 (tn 2) ?_
 refine spC 22 h ?_ ?_<;>intro h
 ·refine nN K (tn 14) ?_
  refine VW.cond (b := true) (by kernel_rfl) (fun _ => ?_) (fun h' => nomatch h')
  refine nR K (tn 3) ?_
  cases h; exact VW.ret (rt [some 1])
 refine nG K 2 (tn 2) <| VO.on (j := 4) (want := false) (d := 22) (b := false) rfl rfl rfl (by kernel_rfl) rfl ?_
 obtain⟨y6,hy,h⟩:=aS h
 refine clc false [.t (.int .i64), .t (.int .i64), .t (.int .i64)] [] (some 25) K (ok64 N _ _ _ hy) <| nG K 3 (tn 3) ?_
 refine spC 28 h ?_ ?_<;>intro h
 ·refine nN K (tn 8) ?_
  refine VW.cond (b := true) (by kernel_rfl) (fun _ => ?_) (fun h' => nomatch h')
  refine nR K (tn 3) ?_
  cases h; exact VW.ret (rt [some 1])
 refine nG K 5 (tn 5) <| VO.on (j := 10) (want := false) (d := 28) (b := false) rfl rfl rfl (by kernel_rfl) rfl ?_
 obtain⟨y7,hy,h⟩:=aS h
 refine clc false [.t (.int .i64), .t (.int .i64), .t (.int .i64)] [] (some 34) K (ok64 N _ _ _ hy) <| nN K (tn 2) ?_
 refine cnd h ?_ ?_<;>intro h
 ·refine nR K (tn 3) ?_
  cases h; exact VW.ret (rt [some 1])
 refine VW.skip <| sq <| VW.region <| nG K 2 (tn 2) ?_
 obtain⟨y8,hy,h⟩:=aS h
 refine clc false [.t (.int .i64)] [] (some 41) K (ok111 N _ hy) <| nN K (tn 5) <| sq <| sq <| VW.region ?_
 obtain⟨g11,h⟩:=gS h
 refine nG K 9 (pu 3 (an g11 (tn 5))) ?_
 refine spC 52 h ?_ ?_<;>intro h
 ·refine sNh K [0, 1, 5, 8, 62] [0, 1] [(0, Vv (.sl Y77) a0), (1, Vv (.sl Y73) a1), (5, .lf (.ptr 0 0 0 0)), (8, hh 1), (62, B true)] (tn 10) ?_
  refine VW.cond (b := true) (by kernel_rfl) (fun _ => ?_) (fun h' => nomatch h')
  refine nR K (tn 3) ?_
  cases h; exact VW.ret (rt [some 1])
 obtain⟨g12,h⟩:=gS h
 refine sNh K [0, 1, 5, 8, 62] [0, 1] [(0, Vv (.sl Y77) a0), (1, Vv (.sl Y73) a1), (5, .lf (.ptr 0 0 0 0)), (8, hh 1), (62, B (((a1.getD (wr (a2.2 + (1 : Int))).toNat D73).1) != y8.2))] (pu 4 (an g12 (tn 5))) ?_
 refine cnd h ?_ ?_<;>intro h
 ·refine nR K (tn 3) ?_
  cases h; exact VW.ret (rt [some 1])
 refine VW.skip <| sq <| VW.region <| nG K 6 (tn 6) ?_
 obtain⟨y13,hy,h⟩:=aS h
 refine clc false [.t (.sl Y77), .t (.sl Y73), .t (.int .i64), .t (.int .i64)] [] (some 71) K (ok112 N _ _ _ _ hy) <| nN K (tn 5) <| sq <| nR K (tn 2) ?_
 refine cnd h ?_ ?_<;>intro h
 ·refine nR K (tn 3) ?_
  cases h; exact VW.ret (rt [some 1])
 refine VW.skip <| sq <| VW.region <| nG K 3 (tn 3) ?_
 obtain⟨y14,hy,h⟩:=aS h
 refine clc false [.t (.sl Y73), .t (.int .i64), .t (.int .i64)] [] (some 81) K (ok88 N _ _ _ hy) <| nN K (tn 5) <| sq ?_
 obtain⟨g15,h⟩:=gS h
 obtain⟨g16,h⟩:=gS h
 obtain⟨y17,hy17,h⟩:=aS h
 refine dr K [(8, .ev [2]), (9, .cl [] (some 93) [.lf (.own Y73 y17 .dp)])] [(8, 0), (9, 1)] [8, 9] [8, 15] [1, 4] (pu 3 (an g15 (pu 3 (an g16 (tn 3))))) ⟨qE [2] K trivial, qC true [.t (.sl (.sl Y73))] [] [] (some 93) K (ok92 N _ hy17), trivial⟩ <| sq <| sq <| VW.region <| nG K 1 (tn 1) ?_
 obtain⟨y19,hy,h⟩:=aS h
 refine clc true [.t (.sl Y73)] [] (some 95) K (ok40 N _ hy) <| nN K (tn 1) ?_
 refine cnd h ?_ ?_<;>intro h
 ·refine nR K (tn 3) ?_
  cases h; exact VW.ret (rt [some 0])
 refine VW.skip <| nR K (tn 3) ?_
 cases h; exact VW.ret (rt [some 1])
def F28_j0 (N : Nat) (x138 : (List Z53)) : Option ((List Z53)) :=
  some x138
def F28_j1 (N : Nat) (nx230 : (List Z53) → Int → Option ((List Z53))) (x185 : Int) (x252 : (List Z53)) : Option ((List Z53)) :=
  nx230 x252 (IntKind.i64.wrap (x185 + (1 : Int)))
def F28_j2 (N : Nat) (nx268 : (List Z53) → Int → Option ((List Z53))) (x261 : Int) (x271 : (List Z53)) : Option ((List Z53)) :=
  nx268 x271 (IntKind.i64.wrap (x261 + (1 : Int)))
def F28_l0_b (N : Nat) (a0 : (List Z77)) (a1 : (List Z73)) (nx230 : (List Z53) → Int → Option ((List Z53))) (x185 : Int) (nx268 : (List Z53) → Int → Option ((List Z53))) (x260 : (List Z53)) (x261 : Int) : Option ((List Z53)) :=
  cond (decide (x261 < (12 : Int))) (andO (F70 N a0 a1 (x261, x185)) fun y273 => cond y273.2 (gd (x260.length + ([(x261, x185)]).length ≤ lim Y53) (F28_j2 N nx268 x261 (x260 ++ ([(x261, x185)])))) (F28_j2 N nx268 x261 x260)) (F28_j1 N nx230 x185 x260)
def F28_l0 (N : Nat) (a0 : (List Z77)) (a1 : (List Z73)) (nx230 : (List Z53) → Int → Option ((List Z53))) (x185 : Int) := loopF (F28_l0_b N a0 a1 nx230 x185) (fun _ _ => none)
theorem F28_l0_s N a0 a1 nx230 x185 {k} (hk : 0 < k) x260 x261 : F28_l0 N a0 a1 nx230 x185 k x260 x261 = F28_l0_b N a0 a1 nx230 x185 (F28_l0 N a0 a1 nx230 x185 (k - 1)) x260 x261 := by cases k;cases hk;rfl
def F28_l1_b (N : Nat) (a0 : (List Z77)) (a1 : (List Z73)) (nx230 : (List Z53) → Int → Option ((List Z53))) (x184 : (List Z53)) (x185 : Int) : Option ((List Z53)) :=
  cond (decide (x185 < (a1.length : Int))) (F28_l0 N a0 a1 nx230 x185 N x184 (0 : Int)) (F28_j0 N x184)
def F28_l1 (N : Nat) (a0 : (List Z77)) (a1 : (List Z73)) := loopF (F28_l1_b N a0 a1) (fun _ _ => none)
theorem F28_l1_s N a0 a1 {k} (hk : 0 < k) x184 x185 : F28_l1 N a0 a1 k x184 x185 = F28_l1_b N a0 a1 (F28_l1 N a0 a1 (k - 1)) x184 x185 := by cases k;cases hk;rfl
def F28 (N : Nat) (a0 : (List Z77)) (a1 : (List Z73)) : Option ((List Z53)) :=
  andO (F25 N a0 a1) fun y2 => cond (!y2) (some ([])) (F28_l1 N a0 a1 N ([]) (0 : Int))
theorem ok28 N a0 a1 {r} (h : F28 N a0 a1 = some r) : Con prog 28 [Vv (.sl Y77) a0, Vv (.sl Y73) a1] [.lf (.own Y53 r .dp)] := by
 refine ctr [.lf (.own Y53 .dp)] K func28 rfl fun w0 E0 ht => ?_
 unfold F28 at h
 show VW _ _ _ _ _ (retQ _ _ _ _) _
 refine nR K (tn 1) <| nR K (tn 2) <| sq <| sq <| VW.region <| nG K 2 (tn 2) ?_
 obtain⟨y2,hy,h⟩:=aS h
 refine clc false [.t (.sl Y77), .t (.sl Y73)] [] (some 14) K (ok25 N _ _ hy) <| nN K (tn 1) ?_
 refine cnd h ?_ ?_<;>intro h
 ·refine nR K (tn 1) ?_
  cases h; exact VW.ret (rt [none])
 refine VW.skip ?_
 refine VW.join (fun s => ∃ x138, s = ⟨[(5, hh 0)], [ar 0 Y53 x138 .dp]⟩ ∧ F28_j0 N x138 = some r) ?_ ?_
 ·refine nR K (tn 1) <| VW.block <| lop (fun k s => ∃ x184 x185, s = ⟨[(0, Vv (.sl Y77) a0), (1, Vv (.sl Y73) a1), (5, hh 0), (6, I x185)], [ar 0 Y53 x184 .dp]⟩ ∧ F28_l1 N a0 a1 k x184 x185 = some r) N [.nilS 5 Y53 .dp, .ren [0, 1, 5, 6] [0]] ⟨[], (0 : Int), rfl, h⟩ ?_
  rintro k230 s ⟨x184, x185, rfl, h⟩
  cases k230 with
  | zero => cases show none = some r from h
  | succ k230 =>
   replace h : F28_l1_b N a0 a1 (F28_l1 N a0 a1 k230) x184 x185 = some r := h
   unfold F28_l1_b at h
   refine sq <| nR K (tn 4) ?_
   refine cnd h ?_ ?_<;>intro h
   ·refine VW.skip ?_
    refine VW.join (fun s => ∃ x252, s = ⟨[(0, Vv (.sl Y77) a0), (1, Vv (.sl Y73) a1), (5, hh 0), (6, I x185)], [ar 0 Y53 x252 .dp]⟩ ∧ F28_j1 N (F28_l1 N a0 a1 k230) x185 x252 = some r) ?_ ?_
    ·refine VW.block <| nR K (tn 1) <| VW.block <| lop (fun k s => ∃ x260 x261, s = ⟨[(0, Vv (.sl Y77) a0), (1, Vv (.sl Y73) a1), (5, hh 0), (6, I x185), (7, I x261)], [ar 0 Y53 x260 .dp]⟩ ∧ F28_l0 N a0 a1 (F28_l1 N a0 a1 k230) x185 k x260 x261 = some r) N [.ren [0, 1, 5, 6, 7] [0]] ⟨x184, (0 : Int), rfl, h⟩ ?_
     rintro k268 s ⟨x260, x261, rfl, h⟩
     cases k268 with
     | zero => cases show none = some r from h
     | succ k268 =>
      replace h : F28_l0_b N a0 a1 (F28_l1 N a0 a1 k230) x185 (F28_l0 N a0 a1 (F28_l1 N a0 a1 k230) x185 k268) x260 x261 = some r := h
      unfold F28_l0_b at h
      refine sq <| nR K (tn 2) ?_
      refine cnd h ?_ ?_<;>intro h
      ·refine VW.skip ?_
       refine VW.join (fun s => ∃ x271, s = ⟨[(0, Vv (.sl Y77) a0), (1, Vv (.sl Y73) a1), (5, hh 0), (6, I x185), (7, I x261)], [ar 0 Y53 x271 .dp]⟩ ∧ F28_j2 N (F28_l0 N a0 a1 (F28_l1 N a0 a1 k230) x185 k268) x261 x271 = some r) ?_ ?_
       ·refine VW.block <| nR K (tn 5) <| sq <| VW.region <| nG K 3 (tn 3) ?_
        obtain⟨y273,hy,h⟩:=aS h
        refine clc false [.t (.sl Y77), .t (.sl Y73), .t Y53] [] (some 33) K (ok70 N _ _ _ hy) <| nN K (tn 5) <| nR K (tn 1) ?_
        refine cnd h ?_ ?_<;>intro h
        ·obtain⟨g274,h⟩:=gS h
         refine nE K (pu 3 (an g274 (tn 1))) ?_
         exact arv [.ren [0, 1, 5, 6, 7] [0]] ⟨(x260 ++ ([(x261, x185)])), rfl, h⟩
        refine VW.skip ?_
        exact arv [.ren [0, 1, 5, 6, 7] [0]] ⟨x260, rfl, h⟩
       rintro s ⟨x271, rfl, h⟩
       unfold F28_j2 at h
       refine nE K (tn 3) ?_
       exact aro [.ren [0, 1, 5, 6, 7] [0]] ⟨x271, (wr (x261 + (1 : Int))), rfl, h⟩
      refine VW.exit ?_
      exact arv [.ren [0, 1, 5, 6] [0]] ⟨x260, rfl, h⟩
    rintro s ⟨x252, rfl, h⟩
    unfold F28_j1 at h
    refine nE K (tn 3) ?_
    exact aro [.ren [0, 1, 5, 6] [0]] ⟨x252, (wr (x185 + (1 : Int))), rfl, h⟩
   refine VW.exit ?_
   exact arv [.ren [5] [0]] ⟨x184, rfl, h⟩
 rintro s ⟨x138, rfl, h⟩
 unfold F28_j0 at h
 refine nR K (tn 2) ?_
 cases h; exact VW.ret (rt [some 0])
def F109_j0 (N : Nat) (a2 : (List Z73)) (x6 : (List Int)) (x7 : Int) (x8 : Int) : Option (Z102 × Z53) :=
  andO (F42 N (x6, (x7, x8)) (14 : Int)) fun y9 => andO (F42 N y9.1 (IntKind.i64.wrap ((a2.length : Int) + (2 : Int)))) fun y10 => some (y10.1, ((IntKind.i64.wrap (y9.2 - (1 : Int))), (IntKind.i64.wrap (y10.2 - (1 : Int)))))
def F109 (N : Nat) (a0 : Z102) (a1 : (List Z77)) (a2 : (List Z73)) : Option (Z102 × Z53) :=
  andO (F28 N a1 a2) fun y1 => cond (decide ((y1.length : Int) > (0 : Int))) (andO (F42 N a0 (4 : Int)) fun y12 => cond (decide (y12.2 > (0 : Int))) (andO (F42 N y12.1 (y1.length : Int)) fun y13 => gd (InR y13.2 y1.length) (gd (y13.2.toNat < y1.length) (some (y13.1, (y1.getD y13.2.toNat (Ty.dflt Y53)))))) (F109_j0 N a2 y12.1.1 y12.1.2.1 y12.1.2.2)) (F109_j0 N a2 a0.1 a0.2.1 a0.2.2)
theorem ok109 N a0 a1 a2 {r} (h : F109 N a0 a1 a2 = some r) : ConM prog 109 [bx (lv Y102 a0) 103] [.lf (.ptr 0 0 0 0), Vv (.sl Y77) a1, Vv (.sl Y73) a2] [.agg [.v (.int .i64) r.2.1, .v (.int .i64) r.2.2]] [bx (lv Y102 r.1) 103] := by
 refine ⟨enters_of func109 rfl (by decide), HM.intro [.agg [.v (.int .i64), .v (.int .i64)]] K func109 rfl (Nat.le_of_ble_eq_true rfl) (Nat.le_of_ble_eq_true rfl) fun w0 E0 ht => ?_⟩
 unfold F109 at h
 show VW _ _ _ _ _ (retM _ _ _ _ _) _
 refine nR K (tn 1) <| sq <| VW.region <| nG K 2 (tn 2) ?_
 obtain⟨y1,hy,h⟩:=aS h
 refine clc false [.t (.sl Y77), .t (.sl Y73)] [] (some 10) K (ok28 N _ _ hy) <| nN K (tn 1) ?_
 refine VW.join (fun s => ∃ x6 x7 x8, s = ⟨[(0, .lf (.ptr 0 0 0 0)), (2, Vv (.sl Y73) a2), (6, .lf (.ptr 1 0 0 0)), (65536, .lf (.ptr 0 0 0 0))], [bx [.v (.sl (.int .u8)) x6, zi x7, zi x8] 103, bx [zi (0 : Int), zi (0 : Int)] 54]⟩ ∧ F109_j0 N a2 x6 x7 x8 = some r) ?_ ?_
 ·refine sq <| VW.region <| nG K 4 (tn 4) ?_
  refine spC 14 h ?_ ?_<;>intro h
  ·refine nG K 1 (tn 1) <| VO.on (j := 3) (want := true) (d := 14) (b := true) rfl rfl rfl (by kernel_rfl) rfl ?_
   obtain⟨y12,hy,h⟩:=aS h
   refine VO.callM [0] [.r, .t (.int .i64)] (d := some 16) (by kernel_rfl) (by kernel_rfl) (ok42 N _ _ hy) (by kernel_rfl) <| nN K (tn 2) ?_
   refine cnd h ?_ ?_<;>intro h
   ·refine sq <| VW.region <| nG K 4 (tn 4) ?_
    obtain⟨y13,hy,h⟩:=aS h
    refine VO.callM [0] [.r, .t (.int .i64)] (d := some 23) (by kernel_rfl) (by kernel_rfl) (ok42 N _ _ hy) (by kernel_rfl) ?_
    obtain⟨g14,h⟩:=gS h
    obtain⟨g15,h⟩:=gS h
    refine nN K (an g14 (an g15 (tn 1))) ?_
    replace h := Option.some.inj h
    subst h
    refine VW.ghl [.ren [6, 65536] [0, 1]] (VW.ret ?_)
    exact ⟨[], by kernel_rfl, by kernel_rfl, by kernel_rfl⟩
   refine VW.skip ?_
   exact arv [.ren [0, 2, 6, 65536] [0, 1]] ⟨y12.1.1, y12.1.2.1, y12.1.2.2, rfl, h⟩
  refine nN K (tn 4) ?_
  refine VW.cond (b := false) (by kernel_rfl) (fun h' => nomatch h') (fun _ => ?_)
  refine VW.skip ?_
  exact arv [.ren [0, 2, 6, 65536] [0, 1]] ⟨a0.1, a0.2.1, a0.2.2, rfl, h⟩
 rintro s ⟨x6, x7, x8, rfl, h⟩
 unfold F109_j0 at h
 refine sq <| VW.region <| nG K 1 (tn 1) ?_
 obtain⟨y9,hy,h⟩:=aS h
 refine VO.callM [0] [.r, .t (.int .i64)] (d := some 27) (by kernel_rfl) (by kernel_rfl) (ok42 N _ _ hy) (by kernel_rfl) <| nG K 5 (tn 5) ?_
 obtain⟨y10,hy,h⟩:=aS h
 refine VO.callM [0] [.r, .t (.int .i64)] (d := some 33) (by kernel_rfl) (by kernel_rfl) (ok42 N _ _ hy) (by kernel_rfl) <| nN K (tn 3) ?_
 replace h := Option.some.inj h
 subst h
 refine VW.ghl [.ren [6, 65536] [0, 1]] (VW.ret ?_)
 exact ⟨[], by kernel_rfl, by kernel_rfl, by kernel_rfl⟩
def F68_j0 (N : Nat) (x29 : (List Z53)) (x30 : (List Int)) (x31 : Int) (x32 : Int) : Option (Z102 × (List Z53)) :=
  some ((x30, (x31, x32)), x29)
def F68_l0_b (N : Nat) (a1 : (List Z77)) (a3 : Int) (nx55 : (List Int) → Int → Int → (List Z73) → (List Z53) → Int → Option (Z102 × (List Z53))) (x43 : (List Int)) (x44 : Int) (x45 : Int) (x46 : (List Z73)) (x47 : (List Z53)) (x48 : Int) : Option (Z102 × (List Z53)) :=
  cond (decide (x48 < a3)) (andO (F109 N (x43, (x44, x45)) a1 x46) fun y59 => andO (F70 N a1 x46 y59.2) fun y60 => gd (x47.length + ([y59.2]).length ≤ lim Y53) (nx55 y59.1.1 y59.1.2.1 y59.1.2.2 y60.1 (x47 ++ ([y59.2])) (IntKind.i64.wrap (x48 + (1 : Int))))) (F68_j0 N x47 x43 x44 x45)
def F68_l0 (N : Nat) (a1 : (List Z77)) (a3 : Int) := loopF (F68_l0_b N a1 a3) (fun _ _ _ _ _ _ => none)
theorem F68_l0_s N a1 a3 {k} (hk : 0 < k) x43 x44 x45 x46 x47 x48 : F68_l0 N a1 a3 k x43 x44 x45 x46 x47 x48 = F68_l0_b N a1 a3 (F68_l0 N a1 a3 (k - 1)) x43 x44 x45 x46 x47 x48 := by cases k;cases hk;rfl
def F68 (N : Nat) (a0 : Z102) (a1 : (List Z77)) (a2 : (List Z73)) (a3 : Int) : Option (Z102 × (List Z53)) :=
  F68_l0 N a1 a3 N a0.1 a0.2.1 a0.2.2 a2 ([]) (0 : Int)
theorem ok68 N a0 a1 a2 a3 {r} (h : F68 N a0 a1 a2 a3 = some r) : ConM prog 68 [bx (lv Y102 a0) 103] [.lf (.ptr 0 0 0 0), Vv (.sl Y77) a1, Vv (.sl Y73) a2, I a3] [.lf (.own Y53 r.2 .dp)] [bx (lv Y102 r.1) 103] := by
 refine ⟨enters_of func68 rfl (by decide), HM.intro [.lf (.own Y53 .dp)] K func68 rfl (Nat.le_of_ble_eq_true rfl) (Nat.le_of_ble_eq_true rfl) fun w0 E0 ht => ?_⟩
 unfold F68 at h
 show VW _ _ _ _ _ (retM _ _ _ _ _) _
 refine nR K (tn 1) <| nR K (tn 2) ?_
 refine VW.join (fun s => ∃ x29 x30 x31 x32, s = ⟨[(9, hh 0), (65536, .lf (.ptr 1 0 0 0))], [ar 0 Y53 x29 .dp, bx [.v (.sl (.int .u8)) x30, zi x31, zi x32] 103]⟩ ∧ F68_j0 N x29 x30 x31 x32 = some r) ?_ ?_
 ·refine nR K (tn 1) <| VW.block <| lop (fun k s => ∃ x43 x44 x45 x46 x47 x48, s = ⟨[(0, .lf (.ptr 0 0 0 0)), (1, Vv (.sl Y77) a1), (2, Vv (.sl Y73) x46), (3, I a3), (9, hh 1), (10, I x48), (65536, .lf (.ptr 0 0 0 0))], [bx [.v (.sl (.int .u8)) x43, zi x44, zi x45] 103, ar 0 Y53 x47 .dp]⟩ ∧ F68_l0 N a1 a3 k x43 x44 x45 x46 x47 x48 = some r) N [.nilS 9 Y53 .dp, .ren [0, 1, 2, 3, 9, 10, 65536] [0, 1]] ⟨a0.1, a0.2.1, a0.2.2, a2, [], (0 : Int), rfl, h⟩ ?_
  rintro k55 s ⟨x43, x44, x45, x46, x47, x48, rfl, h⟩
  cases k55 with
  | zero => cases show none = some r from h
  | succ k55 =>
   replace h : F68_l0_b N a1 a3 (F68_l0 N a1 a3 k55) x43 x44 x45 x46 x47 x48 = some r := h
   unfold F68_l0_b at h
   refine sq <| nR K (tn 3) ?_
   refine cnd h ?_ ?_<;>intro h
   ·refine VW.skip <| sq <| VW.block <| sq <| VW.region <| nG K 3 (tn 3) ?_
    obtain⟨y59,hy,h⟩:=aS h
    refine VO.callM [0] [.r, .t (.sl Y77), .t (.sl Y73)] (d := some 23) (by kernel_rfl) (by kernel_rfl) (ok109 N _ _ _ hy) (by kernel_rfl) <| nN K (tn 2) <| sq <| VW.region <| nG K 3 (tn 3) ?_
    obtain⟨y60,hy,h⟩:=aS h
    refine clc false [.t (.sl Y77), .t (.sl Y73), .t Y53] [] (some 28) K (ok70 N _ _ _ hy) <| nN K (tn 5) <| nR K (tn 2) ?_
    obtain⟨g61,h⟩:=gS h
    refine nE K (pu 3 (an g61 (tn 1))) <| nE K (tn 3) ?_
    exact aro [.frz 3, .ren [0, 1, 2, 3, 9, 10, 65536] [0, 1]] ⟨y59.1.1, y59.1.2.1, y59.1.2.2, y60.1, (x47 ++ ([y59.2])), (wr (x48 + (1 : Int))), rfl, h⟩
   refine VW.exit ?_
   exact arv [.ren [9, 65536] [1, 0]] ⟨x47, x43, x44, x45, rfl, h⟩
 rintro s ⟨x29, x30, x31, x32, rfl, h⟩
 unfold F68_j0 at h
 refine nR K (tn 2) ?_
 replace h := Option.some.inj h
 subst h
 refine VW.ghl [.ren [8, 65536] [1, 0]] (VW.ret ?_)
 exact ⟨[some 1], by kernel_rfl, by kernel_rfl, by kernel_rfl⟩
def F19_j0 (N : Nat) (x5 : (List Int)) (x6 : Int) (x7 : Int) (x8 : (List Z77)) (x9 : (List Z73)) (x10 : Int) : Option ((List Z77) × (List Z73) × (List Z53)) :=
  andO (F68 N (x5, (x6, x7)) x8 x9 x10) fun y11 => some (x8, x9, y11.2)
def F19 (N : Nat) (a0 : (List Int)) : Option ((List Z77) × (List Z73) × (List Z53)) :=
  andO (F66 N a0) fun y1 => andO (F42 N y1.1 (5 : Int)) fun y2 => andO (F67 N y2.1 (30 : Int)) fun y13 => cond y13.2 (andO (F42 N y13.1 (2 : Int)) fun y14 => F19_j0 N y14.1.1 y14.1.2.1 y14.1.2.2 y1.2.1 y1.2.2 (IntKind.i64.wrap ((20 : Int) + y14.2))) (F19_j0 N y13.1.1 y13.1.2.1 y13.1.2.2 y1.2.1 y1.2.2 y2.2)
theorem ok19 N a0 {r} (h : F19 N a0 = some r) : Con prog 19 [Vv (.sl (.int .u8)) a0] [.lf (.v (.sl Y77) r.1), .lf (.v (.sl Y73) r.2.1), .lf (.own Y53 r.2.2 .dp)] := by
 refine ctr [.lf (.v (.sl Y77)), .lf (.v (.sl Y73)), .lf (.own Y53 .dp)] K func19 rfl fun w0 E0 ht => ?_
 unfold F19 at h
 show VW _ _ _ _ _ (retQ _ _ _ _) _
 refine nR K (tn 3) <| sq <| VW.region <| nG K 1 (tn 1) ?_
 obtain⟨y1,hy,h⟩:=aS h
 refine VO.callB3 [.t (.sl (.int .u8))] (d := 11) (by kernel_rfl) (ok66 N _ hy) <| nN K (tn 7) <| sq <| VW.region <| nG K 1 (tn 1) ?_
 obtain⟨y2,hy,h⟩:=aS h
 refine VO.callM [0] [.r, .t (.int .i64)] (d := some 16) (by kernel_rfl) (by kernel_rfl) (ok42 N _ _ hy) (by kernel_rfl) <| nN K (tn 1) ?_
 refine VW.join (fun s => ∃ x5 x6 x7 x8 x9 x10, s = ⟨[(5, .lf (.ptr 0 0 0 0)), (6, Vv (.sl Y77) x8), (7, Vv (.sl Y73) x9), (8, I x10)], [bx [.v (.sl (.int .u8)) x5, zi x6, zi x7] 103]⟩ ∧ F19_j0 N x5 x6 x7 x8 x9 x10 = some r) ?_ ?_
 ·refine sq <| VW.region <| nG K 1 (tn 1) ?_
  obtain⟨y13,hy,h⟩:=aS h
  refine VO.callM [0] [.r, .t (.int .i64)] (d := some 18) (by kernel_rfl) (by kernel_rfl) (ok67 N _ _ hy) (by kernel_rfl) <| nN K (tn 0) ?_
  refine cnd h ?_ ?_<;>intro h
  ·refine VW.region <| nG K 1 (tn 1) ?_
   obtain⟨y14,hy,h⟩:=aS h
   refine VO.callM [0] [.r, .t (.int .i64)] (d := some 20) (by kernel_rfl) (by kernel_rfl) (ok42 N _ _ hy) (by kernel_rfl) <| nN K (tn 2) ?_
   exact arv [.ren [5, 6, 7, 8] [0]] ⟨y14.1.1, y14.1.2.1, y14.1.2.2, y1.2.1, y1.2.2, (wr ((20 : Int) + y14.2)), rfl, h⟩
  refine VW.skip ?_
  exact arv [.ren [5, 6, 7, 8] [0]] ⟨y13.1.1, y13.1.2.1, y13.1.2.2, y1.2.1, y1.2.2, y2.2, rfl, h⟩
 rintro s ⟨x5, x6, x7, x8, x9, x10, rfl, h⟩
 unfold F19_j0 at h
 refine sq <| VW.region <| nG K 6 (tn 6) ?_
 obtain⟨y11,hy,h⟩:=aS h
 refine VO.callM [0] [.r, .t (.sl Y77), .t (.sl Y73), .t (.int .i64)] (d := some 28) (by kernel_rfl) (by kernel_rfl) (ok68 N _ _ _ _ hy) (by kernel_rfl) <| nN K (tn 3) ?_
 cases h; exact VW.ret (rt [some 1])
def F20_j0 (N : Nat) (a2 : (List Z53)) (x17 : (List Z73)) : Option ((List Z73) × Int) :=
  some (x17, (a2.length : Int))
def F20_l0_b (N : Nat) (a0 : (List Z77)) (a2 : (List Z53)) (nx29 : (List Z73) → Int → Option ((List Z73) × Int)) (x23 : (List Z73)) (x24 : Int) : Option ((List Z73) × Int) :=
  cond (decide (x24 < (a2.length : Int))) (gd (InR x24 a2.length) (andO (F70 N a0 x23 (a2.getD x24.toNat (Ty.dflt Y53))) fun y33 => cond (!y33.2) (some (x23, x24)) (nx29 y33.1 (IntKind.i64.wrap (x24 + (1 : Int)))))) (F20_j0 N a2 x23)
def F20_l0 (N : Nat) (a0 : (List Z77)) (a2 : (List Z53)) := loopF (F20_l0_b N a0 a2) (fun _ _ => none)
theorem F20_l0_s N a0 a2 {k} (hk : 0 < k) x23 x24 : F20_l0 N a0 a2 k x23 x24 = F20_l0_b N a0 a2 (F20_l0 N a0 a2 (k - 1)) x23 x24 := by cases k;cases hk;rfl
def F20 (N : Nat) (a0 : (List Z77)) (a1 : (List Z73)) (a2 : (List Z53)) : Option ((List Z73) × Int) :=
  andO (F69 N a1) fun y1 => cond (decide ((a2.length : Int) > (20 : Int))) (some (y1, (0 : Int))) (F20_l0 N a0 a2 N y1 (0 : Int))
theorem ok20 N a0 a1 a2 {r} (h : F20 N a0 a1 a2 = some r) : Con prog 20 [Vv (.sl Y77) a0, Vv (.sl Y73) a1, Vv (.sl Y53) a2] [.lf (.own Y73 r.1 .dp), .lf (.v (.int .i64) r.2)] := by
 refine ctr [.lf (.own Y73 .dp), .lf (.v (.int .i64))] K func20 rfl fun w0 E0 ht => ?_
 unfold F20 at h
 show VW _ _ _ _ _ (retQ _ _ _ _) _
 refine nR K (tn 2) <| sq <| VW.region <| nG K 1 (tn 1) ?_
 obtain⟨y1,hy,h⟩:=aS h
 refine clc false [.t (.sl Y73)] [] (some 13) K (ok69 N _ hy) <| nN K (tn 1) <| sq <| nR K (tn 3) ?_
 refine cnd h ?_ ?_<;>intro h
 ·refine nR K (tn 3) ?_
  cases h; exact VW.ret (rt [some 0])
 refine VW.skip ?_
 refine VW.join (fun s => ∃ x17, s = ⟨[(2, Vv (.sl Y53) a2), (8, hh 0)], [ar 0 Y73 x17 .dp]⟩ ∧ F20_j0 N a2 x17 = some r) ?_ ?_
 ·refine nR K (tn 1) <| VW.block <| lop (fun k s => ∃ x23 x24, s = ⟨[(0, Vv (.sl Y77) a0), (2, Vv (.sl Y53) a2), (8, hh 0), (9, I x24)], [ar 0 Y73 x23 .dp]⟩ ∧ F20_l0 N a0 a2 k x23 x24 = some r) N [.ren [0, 2, 8, 9] [0]] ⟨y1, (0 : Int), rfl, h⟩ ?_
  rintro k29 s ⟨x23, x24, rfl, h⟩
  cases k29 with
  | zero => cases show none = some r from h
  | succ k29 =>
   replace h : F20_l0_b N a0 a2 (F20_l0 N a0 a2 k29) x23 x24 = some r := h
   unfold F20_l0_b at h
   refine sq <| nR K (tn 4) ?_
   refine cnd h ?_ ?_<;>intro h
   ·refine VW.skip <| sq <| VW.block <| sq <| VW.region ?_
    obtain⟨g32,h⟩:=gS h
    refine nG K 6 (pu 4 (an g32 (tn 1))) ?_
    obtain⟨y33,hy,h⟩:=aS h
    refine clc true [.t (.sl Y77), .t (.sl Y73), .t Y53] [] (some 31) K (ok70 N _ _ _ hy) <| nN K (tn 5) <| sq <| nR K (tn 2) ?_
    refine cnd h ?_ ?_<;>intro h
    ·refine nR K (tn 4) ?_
     cases h; exact VW.ret (rt [some 0])
    refine VW.skip <| nE K (tn 2) <| nE K (tn 3) ?_
    exact aro [.ren [0, 2, 8, 9] [1]] ⟨y33.1, (wr (x24 + (1 : Int))), rfl, h⟩
   refine VW.exit ?_
   exact arv [.ren [2, 8] [0]] ⟨x23, rfl, h⟩
 rintro s ⟨x17, rfl, h⟩
 unfold F20_j0 at h
 refine nR K (tn 5) ?_
 cases h; exact VW.ret (rt [some 0])
def F137_j0 (N : Nat) (a0 : Int) (x3 : Bool) : Option (Int × Int) :=
  cond x3 (some ((1 : Int), (3 : Int))) (cond (a0 == (7 : Int)) (some ((7 : Int), (7 : Int))) (cond (a0 == (8 : Int)) (some ((2 : Int), (2 : Int))) (cond (a0 == (9 : Int)) (some ((6 : Int), (2 : Int))) (cond (a0 == (10 : Int)) (some ((1 : Int), (2 : Int))) (cond (a0 == (11 : Int)) (some ((7 : Int), (5 : Int))) (some ((-1 : Int), (-1 : Int))))))))
def F137 (N : Nat) (a0 : Int) : Option (Int × Int) :=
  cond (a0 == (0 : Int)) (some ((1 : Int), (1 : Int))) (cond (a0 == (1 : Int)) (some ((1 : Int), (5 : Int))) (cond (a0 == (2 : Int)) (some ((6 : Int), (6 : Int))) (cond (a0 == (3 : Int)) (some ((5 : Int), (5 : Int))) (cond (a0 == (4 : Int)) (some ((1 : Int), (4 : Int))) (cond (a0 == (5 : Int)) (F137_j0 N a0 (a0 == (5 : Int))) (F137_j0 N a0 (a0 == (6 : Int))))))))
theorem ok137 N a0 {r} (h : F137 N a0 = some r) : Con prog 137 [I a0] [.lf (.v (.int .i64) r.1), .lf (.v (.int .i64) r.2)] := by
 refine ctr [.lf (.v (.int .i64)), .lf (.v (.int .i64))] K func137 rfl fun w0 E0 ht => ?_
 unfold F137 at h
 show VW _ _ _ _ _ (retQ _ _ _ _) _
 refine nR K (tn 2) <| sq <| nR K (tn 1) <| VW.block <| nR K (tn 2) ?_
 refine cnd h ?_ ?_<;>intro h
 ·refine nR K (tn 2) ?_
  cases h; exact VW.ret (rt [])
 refine nR K (tn 2) ?_
 refine cnd h ?_ ?_<;>intro h
 ·refine nR K (tn 2) ?_
  cases h; exact VW.ret (rt [])
 refine nR K (tn 2) ?_
 refine cnd h ?_ ?_<;>intro h
 ·refine nR K (tn 2) ?_
  cases h; exact VW.ret (rt [])
 refine nR K (tn 2) ?_
 refine cnd h ?_ ?_<;>intro h
 ·refine nR K (tn 2) ?_
  cases h; exact VW.ret (rt [])
 refine nR K (tn 2) ?_
 refine cnd h ?_ ?_<;>intro h
 ·refine nR K (tn 2) ?_
  cases h; exact VW.ret (rt [])
 refine VW.join (fun s => ∃ x3, s = ⟨[(4, I a0), (15, B x3)], []⟩ ∧ F137_j0 N a0 x3 = some r) ?_ ?_
 ·refine nR K (tn 2) ?_
  refine cnd h ?_ ?_<;>intro h
  ·refine VW.skip ?_
   exact arv [.ren [4, 15] []] ⟨(a0 == (5 : Int)), rfl, h⟩
  refine nE K (tn 2) ?_
  exact arv [.ren [4, 15] []] ⟨(a0 == (6 : Int)), rfl, h⟩
 rintro s ⟨x3, rfl, h⟩
 unfold F137_j0 at h
 refine cnd h ?_ ?_<;>intro h
 ·refine nR K (tn 2) ?_
  cases h; exact VW.ret (rt [])
 refine nR K (tn 2) ?_
 refine cnd h ?_ ?_<;>intro h
 ·refine nR K (tn 2) ?_
  cases h; exact VW.ret (rt [])
 refine nR K (tn 2) ?_
 refine cnd h ?_ ?_<;>intro h
 ·refine nR K (tn 2) ?_
  cases h; exact VW.ret (rt [])
 refine nR K (tn 2) ?_
 refine cnd h ?_ ?_<;>intro h
 ·refine nR K (tn 2) ?_
  cases h; exact VW.ret (rt [])
 refine nR K (tn 2) ?_
 refine cnd h ?_ ?_<;>intro h
 ·refine nR K (tn 2) ?_
  cases h; exact VW.ret (rt [])
 refine nR K (tn 2) ?_
 refine cnd h ?_ ?_<;>intro h
 ·refine nR K (tn 2) ?_
  cases h; exact VW.ret (rt [])
 refine VW.skip <| nR K (tn 2) ?_
 cases h; exact VW.ret (rt [])
def F114_j0 (N : Nat) (x148 : (List Z73)) (x149 : (List Z73)) (x150 : (List Z73)) : Option ((List Z73) × Bool) :=
  andO (F48 N ([x149, x148, x150])) fun y151 => some (y151, true)
def F114_j1 (N : Nat) (x178 : (List Z73)) (x181 : (List Z73)) (x242 : (List Int)) : Option ((List Z73) × Bool) :=
  gd (0 < x178.length) (gd (0 < (x178.set 0 ((x178.getD 0 (Ty.dflt Y73)).1, ((x178.getD 0 (Ty.dflt Y73)).2.1, ((x178.getD 0 (Ty.dflt Y73)).2.2.1, ((x178.getD 0 (Ty.dflt Y73)).2.2.2.1, ((x178.getD 0 (Ty.dflt Y73)).2.2.2.2.1, ((x178.getD 0 (Ty.dflt Y73)).2.2.2.2.2.1, x242))))))).length) (andO (F48 N ([[((x178.set 0 ((x178.getD 0 (Ty.dflt Y73)).1, ((x178.getD 0 (Ty.dflt Y73)).2.1, ((x178.getD 0 (Ty.dflt Y73)).2.2.1, ((x178.getD 0 (Ty.dflt Y73)).2.2.2.1, ((x178.getD 0 (Ty.dflt Y73)).2.2.2.2.1, ((x178.getD 0 (Ty.dflt Y73)).2.2.2.2.2.1, x242))))))).getD 0 (Ty.dflt Y73))], x181])) fun y245 => some (y245, true)))
def F114_l0_b (N : Nat) (x178 : (List Z73)) (x181 : (List Z73)) (nx270 : (List Int) → (List Int) → Int → Int → Option ((List Z73) × Bool)) (x258 : (List Int)) (x259 : (List Int)) (x260 : Int) (x261 : Int) : Option ((List Z73) × Bool) :=
  cond (decide (x261 < x260)) (gd (InR x261 x259.length) (gd (0 < x178.length) (gd (InR (x259.getD x261.toNat (Ty.dflt (.int .i64))) ((x178.getD 0 (Ty.dflt Y73)).2.2.2.2.2.2).length) (gd (x258.length + ([(((x178.getD 0 (Ty.dflt Y73)).2.2.2.2.2.2).getD (x259.getD x261.toNat (Ty.dflt (.int .i64))).toNat (Ty.dflt (.int .i64)))]).length ≤ lim (.int .i64)) (nx270 (x258 ++ ([(((x178.getD 0 (Ty.dflt Y73)).2.2.2.2.2.2).getD (x259.getD x261.toNat (Ty.dflt (.int .i64))).toNat (Ty.dflt (.int .i64)))])) x259 x260 (IntKind.i64.wrap (x261 + (1 : Int)))))))) (F114_j1 N x178 x181 x258)
def F114_l0 (N : Nat) (x178 : (List Z73)) (x181 : (List Z73)) := loopF (F114_l0_b N x178 x181) (fun _ _ _ _ => none)
theorem F114_l0_s N x178 x181 {k} (hk : 0 < k) x258 x259 x260 x261 : F114_l0 N x178 x181 k x258 x259 x260 x261 = F114_l0_b N x178 x181 (F114_l0 N x178 x181 (k - 1)) x258 x259 x260 x261 := by cases k;cases hk;rfl
def F114_j2 (N : Nat) (a0 : (List Z77)) (a1 : (List Z73)) (y10 : (List Int)) (y11 : Int) (x175 : Int) (x176 : Int) (x177 : (List Z73)) (x178 : (List Z73)) (x179 : (List Z73)) (x180 : (List Z73)) (x181 : (List Z73)) (x182 : Int) (x183 : Bool) : Option ((List Z73) × Bool) :=
  cond x183 (gd (InR (0 : Int) y10.length) (gd ((0 : Int).toNat < y10.length) (andO (F39 N a0 a1 (y10.getD ((0 : Int).toNat) (Ty.dflt (.int .i64)))) fun y186 => cond (x175 == (5 : Int)) (gd (InR (0 : Int) y10.length) (gd ((0 : Int).toNat < y10.length) (gd (0 ≤ (y10.getD ((0 : Int).toNat) (Ty.dflt (.int .i64))) ∧ (y10.getD ((0 : Int).toNat) (Ty.dflt (.int .i64))) ≤ y11 ∧ y11 ≤ (a1.length : Int)) (andO (F48 N ([x180, x179, ((a1.take y11.toNat).drop (y10.getD ((0 : Int).toNat) (Ty.dflt (.int .i64))).toNat)])) fun y195 => gd (0 < x177.length) (some (y195, (decide (((x177.getD 0 (Ty.dflt Y73)).2.2.1) < y186)))))))) (gd (0 < x177.length) (gd (0 < x177.length) (gd (InR (0 : Int) y10.length) (gd ((0 : Int).toNat < y10.length) (gd (InR (1 : Int) y10.length) (gd ((1 : Int).toNat < y10.length) (gd (0 ≤ (y10.getD ((0 : Int).toNat) (Ty.dflt (.int .i64))) ∧ (y10.getD ((0 : Int).toNat) (Ty.dflt (.int .i64))) ≤ (y10.getD ((1 : Int).toNat) (Ty.dflt (.int .i64))) ∧ (y10.getD ((1 : Int).toNat) (Ty.dflt (.int .i64))) ≤ (a1.length : Int)) (gd (0 < (x177.set 0 ((x177.getD 0 (Ty.dflt Y73)).1, ((x177.getD 0 (Ty.dflt Y73)).2.1, ((IntKind.i64.wrap (((x177.getD 0 (Ty.dflt Y73)).2.2.1) - y186)), ((x177.getD 0 (Ty.dflt Y73)).2.2.2.1, ((x177.getD 0 (Ty.dflt Y73)).2.2.2.2.1, ((x177.getD 0 (Ty.dflt Y73)).2.2.2.2.2.1, (x177.getD 0 (Ty.dflt Y73)).2.2.2.2.2.2))))))).length) (gd (InR (1 : Int) y10.length) (gd ((1 : Int).toNat < y10.length) (gd (0 ≤ (y10.getD ((1 : Int).toNat) (Ty.dflt (.int .i64))) ∧ (y10.getD ((1 : Int).toNat) (Ty.dflt (.int .i64))) ≤ y11 ∧ y11 ≤ (a1.length : Int)) (andO (F48 N ([x180, ((a1.take (y10.getD ((1 : Int).toNat) (Ty.dflt (.int .i64))).toNat).drop (y10.getD ((0 : Int).toNat) (Ty.dflt (.int .i64))).toNat), [((x177.set 0 ((x177.getD 0 (Ty.dflt Y73)).1, ((x177.getD 0 (Ty.dflt Y73)).2.1, ((IntKind.i64.wrap (((x177.getD 0 (Ty.dflt Y73)).2.2.1) - y186)), ((x177.getD 0 (Ty.dflt Y73)).2.2.2.1, ((x177.getD 0 (Ty.dflt Y73)).2.2.2.2.1, ((x177.getD 0 (Ty.dflt Y73)).2.2.2.2.2.1, (x177.getD 0 (Ty.dflt Y73)).2.2.2.2.2.2))))))).getD 0 (Ty.dflt Y73))], ((a1.take y11.toNat).drop (y10.getD ((1 : Int).toNat) (Ty.dflt (.int .i64))).toNat)])) fun y208 => gd (0 < (x177.set 0 ((x177.getD 0 (Ty.dflt Y73)).1, ((x177.getD 0 (Ty.dflt Y73)).2.1, ((IntKind.i64.wrap (((x177.getD 0 (Ty.dflt Y73)).2.2.1) - y186)), ((x177.getD 0 (Ty.dflt Y73)).2.2.2.1, ((x177.getD 0 (Ty.dflt Y73)).2.2.2.2.1, ((x177.getD 0 (Ty.dflt Y73)).2.2.2.2.2.1, (x177.getD 0 (Ty.dflt Y73)).2.2.2.2.2.2))))))).length) (some (y208, (decide ((((x177.set 0 ((x177.getD 0 (Ty.dflt Y73)).1, ((x177.getD 0 (Ty.dflt Y73)).2.1, ((IntKind.i64.wrap (((x177.getD 0 (Ty.dflt Y73)).2.2.1) - y186)), ((x177.getD 0 (Ty.dflt Y73)).2.2.2.1, ((x177.getD 0 (Ty.dflt Y73)).2.2.2.2.1, ((x177.getD 0 (Ty.dflt Y73)).2.2.2.2.2.1, (x177.getD 0 (Ty.dflt Y73)).2.2.2.2.2.2))))))).getD 0 (Ty.dflt Y73)).2.2.1) ≥ (0 : Int)))))))))))))))))))) (cond (x182 == (8 : Int)) (gd (0 < x177.length) (F114_l0 N x178 x181 N ([]) ((x177.getD 0 (Ty.dflt Y73)).2.2.2.2.2.2) (((x177.getD 0 (Ty.dflt Y73)).2.2.2.2.2.2).length : Int) (0 : Int))) (cond (x182 == (10 : Int)) (gd (0 < x178.length) (gd (0 < x177.length) (gd (InR ((x177.getD 0 (Ty.dflt Y73)).2.2.1) ((x178.getD 0 (Ty.dflt Y73)).2.2.2.2.2.2).length) (gd (0 < x177.length) (gd (0 < (x177.set 0 ((x177.getD 0 (Ty.dflt Y73)).1, ((x177.getD 0 (Ty.dflt Y73)).2.1, ((((x178.getD 0 (Ty.dflt Y73)).2.2.2.2.2.2).getD ((x177.getD 0 (Ty.dflt Y73)).2.2.1).toNat (Ty.dflt (.int .i64))), ((x177.getD 0 (Ty.dflt Y73)).2.2.2.1, ((x177.getD 0 (Ty.dflt Y73)).2.2.2.2.1, ((x177.getD 0 (Ty.dflt Y73)).2.2.2.2.2.1, (x177.getD 0 (Ty.dflt Y73)).2.2.2.2.2.2))))))).length) (andO (F48 N ([x180, [((x177.set 0 ((x177.getD 0 (Ty.dflt Y73)).1, ((x177.getD 0 (Ty.dflt Y73)).2.1, ((((x178.getD 0 (Ty.dflt Y73)).2.2.2.2.2.2).getD ((x177.getD 0 (Ty.dflt Y73)).2.2.1).toNat (Ty.dflt (.int .i64))), ((x177.getD 0 (Ty.dflt Y73)).2.2.2.1, ((x177.getD 0 (Ty.dflt Y73)).2.2.2.2.1, ((x177.getD 0 (Ty.dflt Y73)).2.2.2.2.2.1, (x177.getD 0 (Ty.dflt Y73)).2.2.2.2.2.2))))))).getD 0 (Ty.dflt Y73))], x181])) fun y284 => some (y284, true))))))) (F114_j0 N x179 x180 x181)))
def F114 (N : Nat) (a0 : (List Z77)) (a1 : (List Z73)) (a2 : Z53) : Option ((List Z73) × Bool) :=
  andO (F137 N a2.1) fun y1 => cond (decide (y1.1 < (0 : Int))) (some ([], false)) (gd (InR a2.2 a1.length) (cond (((a1.getD a2.2.toNat (Ty.dflt Y73)).1) != y1.1) (some ([], false)) (gd (InR (IntKind.i64.wrap (a2.2 + (1 : Int))) a1.length) (cond (((a1.getD (IntKind.i64.wrap (a2.2 + (1 : Int))).toNat (Ty.dflt Y73)).1) != y1.2) (some ([], false)) (gd (InR a2.2 a1.length) (gd (InR (IntKind.i64.wrap (a2.2 + (1 : Int))) a1.length) (gd (0 < ([Ty.dflt Y73]).length) (gd (0 < ([Ty.dflt Y73]).length) (andO (F84 N a1 (IntKind.i64.wrap (a2.2 + (1 : Int)))) fun y10 => andO (F49 N a1 a2.2 (1 : Int)) fun y11 => gd (0 < (([Ty.dflt Y73]).set 0 (a1.getD a2.2.toNat (Ty.dflt Y73))).length) (gd (0 < (([Ty.dflt Y73]).set 0 (a1.getD (IntKind.i64.wrap (a2.2 + (1 : Int))).toNat (Ty.dflt Y73))).length) (gd (0 ≤ (IntKind.i64.wrap (a2.2 + (2 : Int))) ∧ (IntKind.i64.wrap (a2.2 + (2 : Int))) ≤ y11 ∧ y11 ≤ (a1.length : Int)) (cond (a2.1 == (2 : Int)) (gd (0 < (([Ty.dflt Y73]).set 0 (a1.getD a2.2.toNat (Ty.dflt Y73))).length) (cond (((([Ty.dflt Y73]).set 0 (a1.getD a2.2.toNat (Ty.dflt Y73))).getD 0 (Ty.dflt Y73)).2.2.2.2.2.1) (some ([], false)) (gd (0 < (([Ty.dflt Y73]).set 0 (a1.getD (IntKind.i64.wrap (a2.2 + (1 : Int))).toNat (Ty.dflt Y73))).length) (cond (((([Ty.dflt Y73]).set 0 (a1.getD (IntKind.i64.wrap (a2.2 + (1 : Int))).toNat (Ty.dflt Y73))).getD 0 (Ty.dflt Y73)).2.2.2.2.2.1) (some ([], false)) (gd (0 < (([Ty.dflt Y73]).set 0 (a1.getD a2.2.toNat (Ty.dflt Y73))).length) (gd (0 < (([Ty.dflt Y73]).set 0 (a1.getD (IntKind.i64.wrap (a2.2 + (1 : Int))).toNat (Ty.dflt Y73))).length) (gd (0 < (([Ty.dflt Y73]).set 0 (a1.getD a2.2.toNat (Ty.dflt Y73))).length) (gd (0 < (([Ty.dflt Y73]).set 0 ((a1.getD a2.2.toNat (Ty.dflt Y73)).1, ((a1.getD a2.2.toNat (Ty.dflt Y73)).2.1, ((a1.getD a2.2.toNat (Ty.dflt Y73)).2.2.1, ((a1.getD a2.2.toNat (Ty.dflt Y73)).2.2.2.1, ((if (((([Ty.dflt Y73]).set 0 (a1.getD (IntKind.i64.wrap (a2.2 + (1 : Int))).toNat (Ty.dflt Y73))).getD 0 (Ty.dflt Y73)).2.2.2.2.1 : Int) < ((([Ty.dflt Y73]).set 0 (a1.getD a2.2.toNat (Ty.dflt Y73))).getD 0 (Ty.dflt Y73)).2.2.2.2.1 then ((([Ty.dflt Y73]).set 0 (a1.getD (IntKind.i64.wrap (a2.2 + (1 : Int))).toNat (Ty.dflt Y73))).getD 0 (Ty.dflt Y73)).2.2.2.2.1 else ((([Ty.dflt Y73]).set 0 (a1.getD a2.2.toNat (Ty.dflt Y73))).getD 0 (Ty.dflt Y73)).2.2.2.2.1), ((a1.getD a2.2.toNat (Ty.dflt Y73)).2.2.2.2.2.1, (a1.getD a2.2.toNat (Ty.dflt Y73)).2.2.2.2.2.2))))))).length) (andO (F48 N ([[((([Ty.dflt Y73]).set 0 ((a1.getD a2.2.toNat (Ty.dflt Y73)).1, ((a1.getD a2.2.toNat (Ty.dflt Y73)).2.1, ((a1.getD a2.2.toNat (Ty.dflt Y73)).2.2.1, ((a1.getD a2.2.toNat (Ty.dflt Y73)).2.2.2.1, ((if (((([Ty.dflt Y73]).set 0 (a1.getD (IntKind.i64.wrap (a2.2 + (1 : Int))).toNat (Ty.dflt Y73))).getD 0 (Ty.dflt Y73)).2.2.2.2.1 : Int) < ((([Ty.dflt Y73]).set 0 (a1.getD a2.2.toNat (Ty.dflt Y73))).getD 0 (Ty.dflt Y73)).2.2.2.2.1 then ((([Ty.dflt Y73]).set 0 (a1.getD (IntKind.i64.wrap (a2.2 + (1 : Int))).toNat (Ty.dflt Y73))).getD 0 (Ty.dflt Y73)).2.2.2.2.1 else ((([Ty.dflt Y73]).set 0 (a1.getD a2.2.toNat (Ty.dflt Y73))).getD 0 (Ty.dflt Y73)).2.2.2.2.1), ((a1.getD a2.2.toNat (Ty.dflt Y73)).2.2.2.2.2.1, (a1.getD a2.2.toNat (Ty.dflt Y73)).2.2.2.2.2.2))))))).getD 0 (Ty.dflt Y73))], ((a1.take y11.toNat).drop (IntKind.i64.wrap (a2.2 + (2 : Int))).toNat)])) fun y161 => some (y161, true)))))))))) (cond (a2.1 == (3 : Int)) (andO (F48 N ([[((([Ty.dflt Y73]).set 0 (a1.getD (IntKind.i64.wrap (a2.2 + (1 : Int))).toNat (Ty.dflt Y73))).getD 0 (Ty.dflt Y73))], ((a1.take y11.toNat).drop (IntKind.i64.wrap (a2.2 + (2 : Int))).toNat)])) fun y162 => gd (0 < (([Ty.dflt Y73]).set 0 (a1.getD a2.2.toNat (Ty.dflt Y73))).length) (gd (0 < (([Ty.dflt Y73]).set 0 (a1.getD (IntKind.i64.wrap (a2.2 + (1 : Int))).toNat (Ty.dflt Y73))).length) (some (y162, ((((([Ty.dflt Y73]).set 0 (a1.getD a2.2.toNat (Ty.dflt Y73))).getD 0 (Ty.dflt Y73)).2.2.1) == (((([Ty.dflt Y73]).set 0 (a1.getD (IntKind.i64.wrap (a2.2 + (1 : Int))).toNat (Ty.dflt Y73))).getD 0 (Ty.dflt Y73)).2.2.1)))))) (cond (a2.1 == (7 : Int)) (andO (F48 N ([[((([Ty.dflt Y73]).set 0 (a1.getD (IntKind.i64.wrap (a2.2 + (1 : Int))).toNat (Ty.dflt Y73))).getD 0 (Ty.dflt Y73))], ((a1.take y11.toNat).drop (IntKind.i64.wrap (a2.2 + (2 : Int))).toNat)])) fun y165 => some (y165, true)) (cond (a2.1 == (4 : Int)) (gd (InR (0 : Int) y10.length) (gd ((0 : Int).toNat < y10.length) (gd (InR (1 : Int) y10.length) (gd ((1 : Int).toNat < y10.length) (gd (0 ≤ (y10.getD ((0 : Int).toNat) (Ty.dflt (.int .i64))) ∧ (y10.getD ((0 : Int).toNat) (Ty.dflt (.int .i64))) ≤ (y10.getD ((1 : Int).toNat) (Ty.dflt (.int .i64))) ∧ (y10.getD ((1 : Int).toNat) (Ty.dflt (.int .i64))) ≤ (a1.length : Int)) (gd (InR (1 : Int) y10.length) (gd ((1 : Int).toNat < y10.length) (gd (0 ≤ (y10.getD ((1 : Int).toNat) (Ty.dflt (.int .i64))) ∧ (y10.getD ((1 : Int).toNat) (Ty.dflt (.int .i64))) ≤ y11 ∧ y11 ≤ (a1.length : Int)) (andO (F48 N ([[((([Ty.dflt Y73]).set 0 (a1.getD (IntKind.i64.wrap (a2.2 + (1 : Int))).toNat (Ty.dflt Y73))).getD 0 (Ty.dflt Y73))], [((([Ty.dflt Y73]).set 0 (a1.getD a2.2.toNat (Ty.dflt Y73))).getD 0 (Ty.dflt Y73))], ((a1.take (y10.getD ((1 : Int).toNat) (Ty.dflt (.int .i64))).toNat).drop (y10.getD ((0 : Int).toNat) (Ty.dflt (.int .i64))).toNat), [((([Ty.dflt Y73]).set 0 (a1.getD a2.2.toNat (Ty.dflt Y73))).getD 0 (Ty.dflt Y73))], ((a1.take y11.toNat).drop (y10.getD ((1 : Int).toNat) (Ty.dflt (.int .i64))).toNat)])) fun y174 => some (y174, true)))))))))) (cond (a2.1 == (5 : Int)) (F114_j2 N a0 a1 y10 y11 a2.1 a2.2 (([Ty.dflt Y73]).set 0 (a1.getD a2.2.toNat (Ty.dflt Y73))) (([Ty.dflt Y73]).set 0 (a1.getD (IntKind.i64.wrap (a2.2 + (1 : Int))).toNat (Ty.dflt Y73))) ([((([Ty.dflt Y73]).set 0 (a1.getD a2.2.toNat (Ty.dflt Y73))).getD 0 (Ty.dflt Y73))]) ([((([Ty.dflt Y73]).set 0 (a1.getD (IntKind.i64.wrap (a2.2 + (1 : Int))).toNat (Ty.dflt Y73))).getD 0 (Ty.dflt Y73))]) ((a1.take y11.toNat).drop (IntKind.i64.wrap (a2.2 + (2 : Int))).toNat) a2.1 (a2.1 == (5 : Int))) (F114_j2 N a0 a1 y10 y11 a2.1 a2.2 (([Ty.dflt Y73]).set 0 (a1.getD a2.2.toNat (Ty.dflt Y73))) (([Ty.dflt Y73]).set 0 (a1.getD (IntKind.i64.wrap (a2.2 + (1 : Int))).toNat (Ty.dflt Y73))) ([((([Ty.dflt Y73]).set 0 (a1.getD a2.2.toNat (Ty.dflt Y73))).getD 0 (Ty.dflt Y73))]) ([((([Ty.dflt Y73]).set 0 (a1.getD (IntKind.i64.wrap (a2.2 + (1 : Int))).toNat (Ty.dflt Y73))).getD 0 (Ty.dflt Y73))]) ((a1.take y11.toNat).drop (IntKind.i64.wrap (a2.2 + (2 : Int))).toNat) a2.1 (a2.1 == (6 : Int)))))))))))))))))))
theorem ok114 N a0 a1 a2 {r} (h : F114 N a0 a1 a2 = some r) : Con prog 114 [Vv (.sl Y77) a0, Vv (.sl Y73) a1, .agg (lv Y53 a2)] [.lf (.own Y73 r.1 .tp), .lf (.v .bool r.2)] := by
 refine ctr [.lf (.own Y73 .tp), .lf (.v .bool)] K func114 rfl fun w0 E0 ht => ?_
 unfold F114 at h
 show VW _ _ _ _ _ (retQ _ _ _ _) _
 refine nR K (tn 3) <| sq <| VW.region <| nG K 2 (tn 2) ?_
 obtain⟨y1,hy,h⟩:=aS h
 refine clc false [.t (.int .i64)] [] (some 24) K (ok137 N _ hy) <| nN K (tn 5) <| sq <| sq <| VW.region <| nG K 3 (tn 3) ?_
 refine spC 29 h ?_ ?_<;>intro h
 ·refine nN K (tn 20) ?_
  refine VW.cond (b := true) (by kernel_rfl) (fun _ => ?_) (fun h' => nomatch h')
  refine nR K (tn 2) ?_
  cases h; exact VW.ret (rt [none])
 obtain⟨g4,h⟩:=gS h
 refine nG K 10 (pu 3 (an g4 (tn 6))) ?_
 refine spC 39 h ?_ ?_<;>intro h
 ·refine nN K (tn 10) ?_
  refine VW.cond (b := true) (by kernel_rfl) (fun _ => ?_) (fun h' => nomatch h')
  refine nR K (tn 2) ?_
  cases h; exact VW.ret (rt [none])
 obtain⟨g5,h⟩:=gS h
 refine nN K (pu 4 (an g5 (tn 5))) ?_
 refine cnd h ?_ ?_<;>intro h
 ·refine nR K (tn 2) ?_
  cases h; exact VW.ret (rt [none])
 refine VW.skip <| sq <| VW.ghl [.ren [0, 1, 5] [0]] ?_
 obtain⟨g6,h⟩:=gS h
 obtain⟨g7,h⟩:=gS h
 obtain⟨g8,h⟩:=gS h
 obtain⟨g9,h⟩:=gS h
 refine VW.gh (Gh.rsv Y73 .tp (by decide)) <| VW.gh (Gh.rsv Y73 .tp (by decide)) ?_
 refine VW.drawnM (by kernel_rfl) [some (50, Vv (.sl Y73) a1), some (51, .lf (.ptr 0 0 0 1)), some (52, I a2.2), some (53, .lf (.fp Y73 (a1.getD a2.2.toNat D73) 0)), some (54, .agg (lv Y73 (a1.getD a2.2.toNat D73))), some (55, Vv (.sl Y73) a1), some (56, .lf (.ptr 0 0 0 1)), some (57, I a2.2), some (58, I (wr (a2.2 + (1 : Int)))), some (59, .lf (.fp Y73 (a1.getD (wr (a2.2 + (1 : Int))).toNat D73) 0)), some (60, .agg (lv Y73 (a1.getD (wr (a2.2 + (1 : Int))).toNat D73))), some (10, .lf (.ptr 1 1 0 0)), some (11, .lf (.ptr 2 1 0 0)), none, none] [11, 12, 13, 14] [(0, [bx (lv Y53 a2) 54, ar 0 Y73 ([]) .tp, ar 0 Y73 ([]) .tp]), (1, [bx (lv Y53 a2) 54, ar 1 Y73 ([Ty.dflt Y73]) .tp, ar 0 Y73 ([]) .tp]), (2, [bx (lv Y53 a2) 54, ar 0 Y73 ([]) .tp, ar 1 Y73 ([Ty.dflt Y73]) .tp]), (3, [bx (lv Y53 a2) 54, ar 1 Y73 ([Ty.dflt Y73]) .tp, ar 1 Y73 ([Ty.dflt Y73]) .tp]), (7, [bx (lv Y53 a2) 54, ar 1 Y73 (([Ty.dflt Y73]).set 0 (a1.getD a2.2.toNat D73)) .tp, ar 1 Y73 ([Ty.dflt Y73]) .tp]), (15, [bx (lv Y53 a2) 54, ar 1 Y73 (([Ty.dflt Y73]).set 0 (a1.getD a2.2.toNat D73)) .tp, ar 1 Y73 (([Ty.dflt Y73]).set 0 (a1.getD (wr (a2.2 + (1 : Int))).toNat D73)) .tp])] [(0, 0), (0, 1), (0, 2), (0, 3), (1, 0), (1, 1), (1, 2), (1, 3), (2, 0), (2, 1), (2, 2), (2, 3), (3, 0), (3, 1), (3, 2), (3, 3), (4, 0), (4, 1), (4, 2), (4, 3), (5, 0), (5, 1), (5, 2), (5, 3), (5, 7), (6, 0), (6, 1), (6, 2), (6, 3), (6, 7), (7, 0), (7, 1), (7, 2), (7, 3), (7, 7), (8, 0), (8, 1), (8, 2), (8, 3), (8, 7), (9, 0), (9, 1), (9, 2), (9, 3), (9, 7), (10, 0), (10, 1), (10, 2), (10, 3), (10, 7), (11, 0), (11, 2), (12, 0), (12, 1), (13, 3), (14, 7)] [0, 1, 5, 10, 11] [0, 1, 2] (s' := ⟨[(0, Vv (.sl Y77) a0), (1, Vv (.sl Y73) a1), (5, .lf (.ptr 0 0 0 0)), (10, .lf (.ptr 1 0 0 0)), (11, .lf (.ptr 2 0 0 0))], [bx (lv Y53 a2) 54, ar 0 Y73 (([Ty.dflt Y73]).set 0 (a1.getD a2.2.toNat D73)) .tp, ar 0 Y73 (([Ty.dflt Y73]).set 0 (a1.getD (wr (a2.2 + (1 : Int))).toNat D73)) .tp]⟩) (by kernel_rfl) (by kernel_rfl) ⟨mT K,
    mT K,
    mT K,
    mT K,
    mT K,
    mT K,
    mT K,
    mT K,
    mT K,
    mT K,
    mT K,
    mT K,
    ⟨_, rfl, Stp.ev K (m := .dp) (φ := InR a2.2 a1.length) (by kernel_rfl) g6⟩,
    ⟨_, rfl, Stp.ev K (m := .dp) (φ := InR a2.2 a1.length) (by kernel_rfl) g6⟩,
    ⟨_, rfl, Stp.ev K (m := .dp) (φ := InR a2.2 a1.length) (by kernel_rfl) g6⟩,
    ⟨_, rfl, Stp.ev K (m := .dp) (φ := InR a2.2 a1.length) (by kernel_rfl) g6⟩,
    mT K,
    mT K,
    mT K,
    mT K,
    mT K,
    mT K,
    mT K,
    mT K,
    mT K,
    mT K,
    mT K,
    mT K,
    mT K,
    mT K,
    mT K,
    mT K,
    mT K,
    mT K,
    mT K,
    mT K,
    mT K,
    mT K,
    mT K,
    mT K,
    ⟨_, rfl, Stp.ev K (m := .dp) (φ := InR (wr (a2.2 + (1 : Int))) a1.length) (by kernel_rfl) g7⟩,
    ⟨_, rfl, Stp.ev K (m := .dp) (φ := InR (wr (a2.2 + (1 : Int))) a1.length) (by kernel_rfl) g7⟩,
    ⟨_, rfl, Stp.ev K (m := .dp) (φ := InR (wr (a2.2 + (1 : Int))) a1.length) (by kernel_rfl) g7⟩,
    ⟨_, rfl, Stp.ev K (m := .dp) (φ := InR (wr (a2.2 + (1 : Int))) a1.length) (by kernel_rfl) g7⟩,
    ⟨_, rfl, Stp.ev K (m := .dp) (φ := InR (wr (a2.2 + (1 : Int))) a1.length) (by kernel_rfl) g7⟩,
    mT K,
    mT K,
    mT K,
    mT K,
    mT K,
    ⟨_, rfl, Stp.allocAt 1 K (by kernel_rfl)⟩,
    ⟨_, rfl, Stp.allocAt 1 K (by kernel_rfl)⟩,
    ⟨_, rfl, Stp.allocAt 2 K (by kernel_rfl)⟩,
    ⟨_, rfl, Stp.allocAt 2 K (by kernel_rfl)⟩,
    ⟨_, rfl, Stp.ev K (m := .dp) (φ := 0 < ([Ty.dflt Y73]).length) (by kernel_rfl) g8⟩,
    ⟨_, rfl, Stp.ev K (m := .dp) (φ := 0 < ([Ty.dflt Y73]).length) (by kernel_rfl) g9⟩, trivial⟩ (by kernel_rfl) ?_
 refine sq <| VW.region <| nG K 4 (tn 4) ?_
 obtain⟨y10,hy,h⟩:=aS h
 refine clc false [.t (.sl Y73), .t (.int .i64)] [] (some 65) K (ok84 N _ _ hy) <| nN K (tn 1) <| sq <| VW.region <| nG K 3 (tn 3) ?_
 obtain⟨y11,hy,h⟩:=aS h
 refine clc false [.t (.sl Y73), .t (.int .i64), .t (.int .i64)] [] (some 69) K (ok49 N _ _ _ hy) <| nN K (tn 1) ?_
 obtain⟨g12,h⟩:=gS h
 refine nR K (an g12 (tn 2)) ?_
 obtain⟨g13,h⟩:=gS h
 refine nR K (an g13 (tn 2)) ?_
 obtain⟨g14,h⟩:=gS h
 refine nR K (pu 5 (an g14 (tn 1))) ?_
 refine VW.join (fun s => ∃ x148 x149 x150, s = ⟨[(14, hh 0), (15, hh 1), (16, Vv (.sl Y73) x150)], [ar 0 Y73 x148 .tp, ar 0 Y73 x149 .tp]⟩ ∧ F114_j0 N x148 x149 x150 = some r) ?_ ?_
 ·refine nR K (tn 2) <| VW.block <| nR K (tn 2) ?_
  refine cnd h ?_ ?_<;>intro h
  ·refine sq <| sq <| VW.region ?_
   obtain⟨g155,h⟩:=gS h
   refine nG K 3 (pu 1 (an g155 (tn 1))) ?_
   refine spC 86 h ?_ ?_<;>intro h
   ·refine nN K (tn 3) ?_
    refine VW.cond (b := true) (by kernel_rfl) (fun _ => ?_) (fun h' => nomatch h')
    refine nR K (tn 2) ?_
    cases h; exact VW.ret (rt [none])
   obtain⟨g156,h⟩:=gS h
   refine nN K (pu 1 (an g156 (tn 1))) ?_
   refine cnd h ?_ ?_<;>intro h
   ·refine nR K (tn 2) ?_
    cases h; exact VW.ret (rt [none])
   refine VW.skip <| sq <| VW.region ?_
   obtain⟨g157,h⟩:=gS h
   obtain⟨g158,h⟩:=gS h
   obtain⟨g159,h⟩:=gS h
   refine sG K 7 [10, 16] [1] ⟨[(10, .lf (.ptr 0 0 0 0)), (16, Vv (.sl Y73) ((a1.take y11.toNat).drop (wr (a2.2 + (2 : Int))).toNat))], [ar 0 Y73 ((([Ty.dflt Y73]).set 0 (a1.getD a2.2.toNat D73)).set 0 (((([Ty.dflt Y73]).set 0 (a1.getD a2.2.toNat D73)).getD 0 D73).1, (((([Ty.dflt Y73]).set 0 (a1.getD a2.2.toNat D73)).getD 0 D73).2.1, (((([Ty.dflt Y73]).set 0 (a1.getD a2.2.toNat D73)).getD 0 D73).2.2.1, (((([Ty.dflt Y73]).set 0 (a1.getD a2.2.toNat D73)).getD 0 D73).2.2.2.1, ((if (((([Ty.dflt Y73]).set 0 (a1.getD (wr (a2.2 + (1 : Int))).toNat D73)).getD 0 D73).2.2.2.2.1 : Int) < ((([Ty.dflt Y73]).set 0 (a1.getD a2.2.toNat D73)).getD 0 D73).2.2.2.2.1 then ((([Ty.dflt Y73]).set 0 (a1.getD (wr (a2.2 + (1 : Int))).toNat D73)).getD 0 D73).2.2.2.2.1 else ((([Ty.dflt Y73]).set 0 (a1.getD a2.2.toNat D73)).getD 0 D73).2.2.2.2.1), (((([Ty.dflt Y73]).set 0 (a1.getD a2.2.toNat D73)).getD 0 D73).2.2.2.2.2.1, ((([Ty.dflt Y73]).set 0 (a1.getD a2.2.toNat D73)).getD 0 D73).2.2.2.2.2.2))))))) .tp]⟩ (pu 1 (an g157 (pu 1 (an g158 (pu 2 (an g159 (tn 0))))))) ?_
   rw [show ((([Ty.dflt Y73]).set 0 (a1.getD a2.2.toNat D73)).set 0 (((([Ty.dflt Y73]).set 0 (a1.getD a2.2.toNat D73)).getD 0 D73).1, (((([Ty.dflt Y73]).set 0 (a1.getD a2.2.toNat D73)).getD 0 D73).2.1, (((([Ty.dflt Y73]).set 0 (a1.getD a2.2.toNat D73)).getD 0 D73).2.2.1, (((([Ty.dflt Y73]).set 0 (a1.getD a2.2.toNat D73)).getD 0 D73).2.2.2.1, ((if (((([Ty.dflt Y73]).set 0 (a1.getD (wr (a2.2 + (1 : Int))).toNat D73)).getD 0 D73).2.2.2.2.1 : Int) < ((([Ty.dflt Y73]).set 0 (a1.getD a2.2.toNat D73)).getD 0 D73).2.2.2.2.1 then ((([Ty.dflt Y73]).set 0 (a1.getD (wr (a2.2 + (1 : Int))).toNat D73)).getD 0 D73).2.2.2.2.1 else ((([Ty.dflt Y73]).set 0 (a1.getD a2.2.toNat D73)).getD 0 D73).2.2.2.2.1), (((([Ty.dflt Y73]).set 0 (a1.getD a2.2.toNat D73)).getD 0 D73).2.2.2.2.2.1, ((([Ty.dflt Y73]).set 0 (a1.getD a2.2.toNat D73)).getD 0 D73).2.2.2.2.2.2))))))) = (([Ty.dflt Y73]).set 0 ((a1.getD a2.2.toNat D73).1, ((a1.getD a2.2.toNat D73).2.1, ((a1.getD a2.2.toNat D73).2.2.1, ((a1.getD a2.2.toNat D73).2.2.2.1, ((if (((([Ty.dflt Y73]).set 0 (a1.getD (wr (a2.2 + (1 : Int))).toNat D73)).getD 0 D73).2.2.2.2.1 : Int) < ((([Ty.dflt Y73]).set 0 (a1.getD a2.2.toNat D73)).getD 0 D73).2.2.2.2.1 then ((([Ty.dflt Y73]).set 0 (a1.getD (wr (a2.2 + (1 : Int))).toNat D73)).getD 0 D73).2.2.2.2.1 else ((([Ty.dflt Y73]).set 0 (a1.getD a2.2.toNat D73)).getD 0 D73).2.2.2.2.1), ((a1.getD a2.2.toNat D73).2.2.2.2.2.1, (a1.getD a2.2.toNat D73).2.2.2.2.2.2))))))) from set_upd ([Ty.dflt Y73]) 0 (a1.getD a2.2.toNat D73) D73 (fun z => (z.1, (z.2.1, (z.2.2.1, (z.2.2.2.1, ((if (((([Ty.dflt Y73]).set 0 (a1.getD (wr (a2.2 + (1 : Int))).toNat D73)).getD 0 D73).2.2.2.2.1 : Int) < ((([Ty.dflt Y73]).set 0 (a1.getD a2.2.toNat D73)).getD 0 D73).2.2.2.2.1 then ((([Ty.dflt Y73]).set 0 (a1.getD (wr (a2.2 + (1 : Int))).toNat D73)).getD 0 D73).2.2.2.2.1 else ((([Ty.dflt Y73]).set 0 (a1.getD a2.2.toNat D73)).getD 0 D73).2.2.2.2.1), (z.2.2.2.2.2.1, z.2.2.2.2.2.2))))))) (by first | (simp; done) | simpa using g159)]
   refine sN K [10, 16] [0] ⟨[(10, .lf (.ptr 0 0 0 0)), (16, Vv (.sl Y73) ((a1.take y11.toNat).drop (wr (a2.2 + (2 : Int))).toNat))], [ar 0 Y73 (([Ty.dflt Y73]).set 0 ((a1.getD a2.2.toNat D73).1, ((a1.getD a2.2.toNat D73).2.1, ((a1.getD a2.2.toNat D73).2.2.1, ((a1.getD a2.2.toNat D73).2.2.2.1, ((if (((([Ty.dflt Y73]).set 0 (a1.getD (wr (a2.2 + (1 : Int))).toNat D73)).getD 0 D73).2.2.2.2.1 : Int) < ((([Ty.dflt Y73]).set 0 (a1.getD a2.2.toNat D73)).getD 0 D73).2.2.2.2.1 then ((([Ty.dflt Y73]).set 0 (a1.getD (wr (a2.2 + (1 : Int))).toNat D73)).getD 0 D73).2.2.2.2.1 else ((([Ty.dflt Y73]).set 0 (a1.getD a2.2.toNat D73)).getD 0 D73).2.2.2.2.1), ((a1.getD a2.2.toNat D73).2.2.2.2.2.1, (a1.getD a2.2.toNat D73).2.2.2.2.2.2))))))) .tp]⟩ (tn 0) ?_
   refine sq <| VW.region ?_
   obtain⟨g160,h⟩:=gS h
   refine nG K 3 (an g160 (tn 2)) <| VO.ghl [.frz 1] <| nG K 1 (tn 1) ?_
   obtain⟨y161,hy,h⟩:=aS h
   refine VO.ghl [.frz 2] <| clc false [.t (.sl (.sl Y73))] [] (some 100) K (ok48 N _ hy) <| nN K (tn 2) ?_
   cases h; exact VW.ret (rt [some 3])
  refine nR K (tn 2) ?_
  refine cnd h ?_ ?_<;>intro h
  ·refine sq ?_
   obtain⟨y162,hy162,h⟩:=aS h
   obtain⟨g163,h⟩:=gS h
   obtain⟨g164,h⟩:=gS h
   refine dr K [(2, .ev [5]), (3, .cl [6] (some 106) [.lf (.own Y73 y162 .tp)])] [(2, 0), (3, 1)] [2, 3] [6, 7] [7] (pu 5 (an g163 (pu 1 (an g164 (tn 3))))) ⟨qE [5] K trivial, qC false [.t (.sl (.sl Y73))] [] [6] (some 106) K (ok48 N _ hy162), trivial⟩ ?_
   cases h; exact VW.ret (rt [some 0])
  refine nR K (tn 2) ?_
  refine cnd h ?_ ?_<;>intro h
  ·refine sq <| VW.region <| nG K 2 (tn 2) <| VO.ghl [.frz 5] <| sG K 1 [116] [6] ⟨[(116, hh 0)], [ar 0 (.sl Y73) ([[((([Ty.dflt Y73]).set 0 (a1.getD (wr (a2.2 + (1 : Int))).toNat D73)).getD 0 D73)], ((a1.take y11.toNat).drop (wr (a2.2 + (2 : Int))).toNat)]) .tp]⟩ (tn 1) ?_
   obtain⟨y165,hy,h⟩:=aS h
   refine VO.ghl [.frz 0] <| clc false [.t (.sl (.sl Y73))] [] (some 117) K (ok48 N _ hy) <| nN K (tn 2) ?_
   cases h; exact VW.ret (rt [some 1])
  refine nR K (tn 2) ?_
  refine cnd h ?_ ?_<;>intro h
  ·refine sq ?_
   obtain⟨g166,h⟩:=gS h
   obtain⟨g167,h⟩:=gS h
   obtain⟨g168,h⟩:=gS h
   obtain⟨g169,h⟩:=gS h
   obtain⟨g170,h⟩:=gS h
   obtain⟨g171,h⟩:=gS h
   obtain⟨g172,h⟩:=gS h
   obtain⟨g173,h⟩:=gS h
   obtain⟨y174,hy174,h⟩:=aS h
   refine dr K [(17, .ev [5, 4]), (18, .cl [6] (some 138) [.lf (.own Y73 y174 .tp)])] [(17, 0), (18, 1)] [17, 18] [6, 7] [7] (pu 4 (an g166 (an g167 (pu 1 (an g168 (an g169 (an g170 (pu 3 (an g171 (an g172 (pu 1 (an g173 (tn 4))))))))))))) ⟨qE [5, 4] K trivial, qC false [.t (.sl (.sl Y73))] [] [6] (some 138) K (ok48 N _ hy174), trivial⟩ ?_
   cases h; exact VW.ret (rt [some 0])
  refine VW.join (fun s => ∃ x175 x176 x177 x178 x179 x180 x181 x182 x183, s = ⟨[(0, Vv (.sl Y77) a0), (1, Vv (.sl Y73) a1), (5, .lf (.ptr 0 0 0 0)), (10, .lf (.ptr 1 0 0 0)), (11, .lf (.ptr 2 0 0 0)), (12, hh 3), (13, I y11), (14, hh 4), (15, hh 5), (16, Vv (.sl Y73) x181), (81, I x182), (139, B x183)], [bx [zi x175, zi x176] 54, ar 0 Y73 x177 .tp, ar 0 Y73 x178 .tp, ar 0 (.int .i64) y10 .dp, ar 0 Y73 x179 .tp, ar 0 Y73 x180 .tp]⟩ ∧ F114_j2 N a0 a1 y10 y11 x175 x176 x177 x178 x179 x180 x181 x182 x183 = some r) ?_ ?_
  ·refine sRh K [0, 1, 5, 10, 11, 12, 13, 14, 15, 16, 81, 139] [0, 1, 2, 3, 4, 5] [(0, Vv (.sl Y77) a0), (1, Vv (.sl Y73) a1), (5, .lf (.ptr 0 0 0 0)), (10, .lf (.ptr 1 0 0 0)), (11, .lf (.ptr 2 0 0 0)), (12, hh 3), (13, I y11), (14, hh 4), (15, hh 5), (16, Vv (.sl Y73) ((a1.take y11.toNat).drop (wr (a2.2 + (2 : Int))).toNat)), (81, I a2.1), (139, B (a2.1 == (5 : Int)))] (tn 2) ?_
   refine cnd h ?_ ?_<;>intro h
   ·refine VW.skip ?_
    exact arv [.ren [0, 1, 5, 10, 11, 12, 13, 14, 15, 16, 81, 139] [0, 1, 2, 3, 4, 5]] ⟨a2.1, a2.2, (([Ty.dflt Y73]).set 0 (a1.getD a2.2.toNat D73)), (([Ty.dflt Y73]).set 0 (a1.getD (wr (a2.2 + (1 : Int))).toNat D73)), [((([Ty.dflt Y73]).set 0 (a1.getD a2.2.toNat D73)).getD 0 D73)], [((([Ty.dflt Y73]).set 0 (a1.getD (wr (a2.2 + (1 : Int))).toNat D73)).getD 0 D73)], ((a1.take y11.toNat).drop (wr (a2.2 + (2 : Int))).toNat), a2.1, (a2.1 == (5 : Int)), rfl, h⟩
   refine nE K (tn 2) ?_
   exact arv [.ren [0, 1, 5, 10, 11, 12, 13, 14, 15, 16, 81, 139] [0, 1, 2, 3, 4, 5]] ⟨a2.1, a2.2, (([Ty.dflt Y73]).set 0 (a1.getD a2.2.toNat D73)), (([Ty.dflt Y73]).set 0 (a1.getD (wr (a2.2 + (1 : Int))).toNat D73)), [((([Ty.dflt Y73]).set 0 (a1.getD a2.2.toNat D73)).getD 0 D73)], [((([Ty.dflt Y73]).set 0 (a1.getD (wr (a2.2 + (1 : Int))).toNat D73)).getD 0 D73)], ((a1.take y11.toNat).drop (wr (a2.2 + (2 : Int))).toNat), a2.1, (a2.1 == (6 : Int)), rfl, h⟩
  rintro s ⟨x175, x176, x177, x178, x179, x180, x181, x182, x183, rfl, h⟩
  unfold F114_j2 at h
  refine cnd h ?_ ?_<;>intro h
  ·refine sq <| VW.region ?_
   obtain⟨g184,h⟩:=gS h
   obtain⟨g185,h⟩:=gS h
   refine nG K 5 (pu 3 (an g184 (an g185 (tn 0)))) ?_
   obtain⟨y186,hy,h⟩:=aS h
   refine clc false [.t (.sl Y77), .t (.sl Y73), .t (.int .i64)] [] (some 147) K (ok39 N _ _ _ hy) <| nN K (tn 1) <| sq <| nR K (tn 3) ?_
   refine cnd h ?_ ?_<;>intro h
   ·refine sq ?_
    obtain⟨g192,h⟩:=gS h
    obtain⟨g193,h⟩:=gS h
    obtain⟨g194,h⟩:=gS h
    obtain⟨y195,hy195,h⟩:=aS h
    obtain⟨g196,h⟩:=gS h
    refine dr K [(8, .ev [5, 4]), (9, .cl [6] (some 160) [.lf (.own Y73 y195 .tp)])] [(8, 0), (9, 1)] [8, 9] [6, 7] [7] (pu 4 (an g192 (an g193 (pu 1 (an g194 (pu 3 (an g196 (tn 4)))))))) ⟨qE [5, 4] K trivial, qC false [.t (.sl (.sl Y73))] [] [6] (some 160) K (ok48 N _ hy195), trivial⟩ ?_
    cases h; exact VW.ret (rt [some 0])
   refine VW.skip ?_
   obtain⟨g197,h⟩:=gS h
   obtain⟨g198,h⟩:=gS h
   refine nR K (pu 1 (an g197 (pu 3 (an g198 (tn 0))))) <| sq ?_
   obtain⟨g199,h⟩:=gS h
   obtain⟨g200,h⟩:=gS h
   obtain⟨g201,h⟩:=gS h
   obtain⟨g202,h⟩:=gS h
   obtain⟨g203,h⟩:=gS h
   obtain⟨g204,h⟩:=gS h
   obtain⟨g205,h⟩:=gS h
   obtain⟨g206,h⟩:=gS h
   obtain⟨g207,h⟩:=gS h
   obtain⟨y208,hy208,h⟩:=aS h
   obtain⟨g209,h⟩:=gS h
   refine dr K [(17, .ev [5, 6]), (18, .cl [7] (some 188) [.lf (.own Y73 y208 .tp)])] [(17, 1), (18, 2)] [10, 17, 18] [6, 7] [8] (pu 3 (an g199 (an g200 (pu 1 (an g201 (an g202 (an g203 (an g204 (pu 3 (an g205 (an g206 (pu 1 (an g207 (pu 3 (an g209 (tn 3)))))))))))))))) ⟨qE [5, 6] K trivial, qC false [.t (.sl (.sl Y73))] [] [7] (some 188) K (ok48 N _ hy208), trivial⟩ ?_
   cases h; exact VW.ret (rt [some 0])
  refine nR K (tn 2) ?_
  refine cnd h ?_ ?_<;>intro h
  ·refine nR K (tn 1) ?_
   refine VW.join (fun s => ∃ x242, s = ⟨[(11, .lf (.ptr 0 0 0 0)), (16, Vv (.sl Y73) x181), (18, hh 1)], [ar 0 Y73 x178 .tp, ar 0 (.int .i64) x242 .dp]⟩ ∧ F114_j1 N x178 x181 x242 = some r) ?_ ?_
   ·obtain⟨g247,h⟩:=gS h
    refine nR K (pu 1 (an g247 (tn 2))) <| VW.block <| lop (fun k s => ∃ x258 x259 x260 x261, s = ⟨[(11, .lf (.ptr 0 0 0 0)), (16, Vv (.sl Y73) x181), (18, hh 1), (195, Vv (.sl (.int .i64)) x259), (196, I x260), (197, I x261)], [ar 0 Y73 x178 .tp, ar 0 (.int .i64) x258 .dp]⟩ ∧ F114_l0 N x178 x181 k x258 x259 x260 x261 = some r) N [.nilS 18 (.int .i64) .dp, .ren [11, 16, 18, 195, 196, 197] [2, 6]] ⟨[], (x177.getD 0 D73).2.2.2.2.2.2, (((x177.getD 0 D73).2.2.2.2.2.2).length : Int), (0 : Int), rfl, h⟩ ?_
    rintro k270 s ⟨x258, x259, x260, x261, rfl, h⟩
    cases k270 with
    | zero => cases show none = some r from h
    | succ k270 =>
     replace h : F114_l0_b N x178 x181 (F114_l0 N x178 x181 k270) x258 x259 x260 x261 = some r := h
     unfold F114_l0_b at h
     refine nR K (tn 1) <| sq ?_
     refine cnd h ?_ ?_<;>intro h
     ·refine VW.skip <| sq <| VW.block ?_
      obtain⟨g275,h⟩:=gS h
      refine nR K (an g275 (tn 2)) ?_
      obtain⟨g276,h⟩:=gS h
      obtain⟨g277,h⟩:=gS h
      obtain⟨g278,h⟩:=gS h
      refine nE K (pu 2 (an g276 (pu 1 (an g277 (pu 2 (an g278 (tn 1))))))) <| nE K (tn 2) ?_
      exact aro [.ren [11, 16, 18, 195, 196, 197] [0, 1]] ⟨(x258 ++ ([(((x178.getD 0 D73).2.2.2.2.2.2).getD (x259.getD x261.toNat (Ty.dflt (.int .i64))).toNat (Ty.dflt (.int .i64)))])), x259, x260, (wr (x261 + (1 : Int))), rfl, h⟩
     refine VW.exit ?_
     exact arv [.ren [11, 16, 18] [0, 1]] ⟨x258, rfl, h⟩
   rintro s ⟨x242, rfl, h⟩
   unfold F114_j1 at h
   refine sq <| VW.region <| nG K 2 (tn 2) <| VO.ghl [.frz 1] ?_
   obtain⟨g243,h⟩:=gS h
   refine nN K (an g243 (tn 0)) <| sq <| VW.region ?_
   obtain⟨g244,h⟩:=gS h
   refine nG K 3 (an g244 (tn 2)) <| VO.ghl [.frz 2] <| nG K 1 (tn 1) ?_
   obtain⟨y245,hy,h⟩:=aS h
   refine VO.ghl [.frz 3] <| clc false [.t (.sl (.sl Y73))] [] (some 216) K (ok48 N _ hy) <| nN K (tn 2) ?_
   cases h; exact VW.ret (rt [some 4])
  refine nR K (tn 2) ?_
  refine cnd h ?_ ?_<;>intro h
  ·obtain⟨g279,h⟩:=gS h
   obtain⟨g280,h⟩:=gS h
   obtain⟨g281,h⟩:=gS h
   obtain⟨g282,h⟩:=gS h
   refine nR K (pu 1 (an g279 (pu 1 (an g280 (an g281 (pu 2 (an g282 (tn 0)))))))) <| sq <| VW.region ?_
   obtain⟨g283,h⟩:=gS h
   refine nG K 4 (pu 1 (an g283 (tn 2))) <| VO.ghl [.frz 5, .frz 6] <| nG K 1 (tn 1) ?_
   obtain⟨y284,hy,h⟩:=aS h
   refine VO.ghl [.frz 7] <| clc false [.t (.sl (.sl Y73))] [] (some 231) K (ok48 N _ hy) <| nN K (tn 2) ?_
   cases h; exact VW.ret (rt [some 8])
  refine VW.skip ?_
  exact arv [.ren [14, 15, 16] [4, 5]] ⟨x179, x180, x181, rfl, h⟩
 rintro s ⟨x148, x149, x150, rfl, h⟩
 unfold F114_j0 at h
 refine sq <| VW.region <| nG K 3 (tn 3) <| VO.ghl [.frz 1, .frz 0] <| nG K 1 (tn 1) ?_
 obtain⟨y151,hy,h⟩:=aS h
 refine VO.ghl [.frz 2] <| clc false [.t (.sl (.sl Y73))] [] (some 236) K (ok48 N _ hy) <| nN K (tn 2) ?_
 cases h; exact VW.ret (rt [some 3])
def F74 (N : Nat) (a0 : (List Z77)) (a1 : (List Z73)) (a2 : Z53) : Option ((List Z73) × Bool) :=
  andO (F61 N a2.2 (0 : Int) (IntKind.i64.wrap ((a1.length : Int) - (1 : Int)))) fun y3 => cond (!y3) (andO (F47 N a1) fun y4 => some (y4, false)) (andO (F114 N a0 a1 a2) fun y5 => cond (!y5.2) (andO (F47 N a1) fun y7 => some (y7, false)) (gd (0 ≤ a2.2 ∧ a2.2 ≤ (a1.length : Int)) (andO (F49 N a1 a2.2 (1 : Int)) fun y9 => gd (0 ≤ y9 ∧ y9 ≤ (a1.length : Int)) (andO (F48 N ([(a1.take a2.2.toNat), y5.1, (a1.drop y9.toNat)])) fun y11 => andO (F47 N y11) fun y12 => andO (F38 N y12) fun y15 => cond (!y15) (andO (F47 N a1) fun y16 => some (y16, false)) (some (y12, true))))))
theorem ok74 N a0 a1 a2 {r} (h : F74 N a0 a1 a2 = some r) : Con prog 74 [Vv (.sl Y77) a0, Vv (.sl Y73) a1, .agg (lv Y53 a2)] [.lf (.own Y73 r.1 .dp), .lf (.v .bool r.2)] := by
 refine ctr [.lf (.own Y73 .dp), .lf (.v .bool)] K func74 rfl fun w0 E0 ht => ?_
 unfold F74 at h
 show VW _ _ _ _ _ (retQ _ _ _ _) _
 refine nR K (tn 3) <| sq <| sq <| VW.region <| nG K 5 (tn 5) ?_
 obtain⟨y3,hy,h⟩:=aS h
 refine clc false [.t (.int .i64), .t (.int .i64), .t (.int .i64)] [] (some 16) K (ok61 N _ _ _ hy) <| nN K (tn 1) ?_
 refine cnd h ?_ ?_<;>intro h
 ·refine sq <| VW.region <| nG K 1 (tn 1) ?_
  obtain⟨y4,hy,h⟩:=aS h
  refine clc false [.t (.sl Y73)] [] (some 19) K (ok47 N _ hy) <| nN K (tn 2) ?_
  cases h; exact VW.ret (rt [some 1])
 refine VW.skip <| sq <| VW.region <| nG K 3 (tn 3) ?_
 obtain⟨y5,hy,h⟩:=aS h
 refine clc false [.t (.sl Y77), .t (.sl Y73), .t Y53] [] (some 24) K (ok114 N _ _ _ hy) <| nN K (tn 5) <| sq <| nR K (tn 2) ?_
 refine cnd h ?_ ?_<;>intro h
 ·refine sq <| VW.region <| nG K 1 (tn 1) ?_
  obtain⟨y7,hy,h⟩:=aS h
  refine clc false [.t (.sl Y73)] [] (some 30) K (ok47 N _ hy) <| nN K (tn 2) ?_
  cases h; exact VW.ret (rt [some 2])
 refine VW.skip <| sq ?_
 obtain⟨g8,h⟩:=gS h
 obtain⟨y9,hy9,h⟩:=aS h
 obtain⟨g10,h⟩:=gS h
 obtain⟨y11,hy11,h⟩:=aS h
 obtain⟨y12,hy12,h⟩:=aS h
 refine dr K [(9, .cl [] (some 40) [.lf (.v (.int .i64) y9)]), (11, .ev [1]), (12, .cl [2] (some 43) [.lf (.own Y73 y11 .tp)]), (13, .cl [] (some 44) [.lf (.own Y73 y12 .dp)])] [(9, 0), (9, 1), (11, 0), (12, 1), (13, 2)] [11, 12, 13] [1, 10] [4] (pu 3 (an g8 (pu 6 (an g10 (tn 4))))) ⟨qC false [.t (.sl Y73), .t (.int .i64), .t (.int .i64)] [] [] (some 40) K (ok49 N _ _ _ hy9), qC false [.t (.sl Y73), .t (.int .i64), .t (.int .i64)] [] [] (some 40) K (ok49 N _ _ _ hy9), qE [1] K trivial, qC false [.t (.sl (.sl Y73))] [] [2] (some 43) K (ok48 N _ hy11), qC true [.t (.sl Y73)] [] [] (some 44) K (ok47 N _ hy12), trivial⟩ ?_
 refine sq <| sq <| VW.region <| nG K 1 (tn 1) ?_
 obtain⟨y15,hy,h⟩:=aS h
 refine clc true [.t (.sl Y73)] [] (some 46) K (ok38 N _ hy) <| nN K (tn 1) ?_
 refine cnd h ?_ ?_<;>intro h
 ·refine sq <| VW.region <| nG K 1 (tn 1) ?_
  obtain⟨y16,hy,h⟩:=aS h
  refine clc false [.t (.sl Y73)] [] (some 49) K (ok47 N _ hy) <| nN K (tn 2) ?_
  cases h; exact VW.ret (rt [some 1])
 refine VW.skip <| nR K (tn 3) ?_
 cases h; exact VW.ret (rt [some 0])
def F29 (N : Nat) (a0 : (List Z77)) (a1 : (List Z73)) (a2 : Z53) : Option ((List Z73) × Bool) :=
  andO (F9 N a0 a1) fun y3 => cond (!y3) (andO (F47 N a1) fun y4 => some (y4, false)) (andO (F74 N a0 a1 a2) fun y5 => some (y5.1, y5.2))
theorem ok29 N a0 a1 a2 {r} (h : F29 N a0 a1 a2 = some r) : Con prog 29 [Vv (.sl Y77) a0, Vv (.sl Y73) a1, .agg (lv Y53 a2)] [.lf (.own Y73 r.1 .dp), .lf (.v .bool r.2)] := by
 refine ctr [.lf (.own Y73 .dp), .lf (.v .bool)] K func29 rfl fun w0 E0 ht => ?_
 unfold F29 at h
 show VW _ _ _ _ _ (retQ _ _ _ _) _
 refine nR K (tn 3) <| sq <| sq <| VW.region <| nG K 2 (tn 2) ?_
 obtain⟨y3,hy,h⟩:=aS h
 refine clc false [.t (.sl Y77), .t (.sl Y73)] [] (some 10) K (ok9 N _ _ hy) <| nN K (tn 1) ?_
 refine cnd h ?_ ?_<;>intro h
 ·refine sq <| VW.region <| nG K 1 (tn 1) ?_
  obtain⟨y4,hy,h⟩:=aS h
  refine clc false [.t (.sl Y73)] [] (some 13) K (ok47 N _ hy) <| nN K (tn 2) ?_
  cases h; exact VW.ret (rt [some 1])
 refine VW.skip <| sq <| VW.region <| nG K 3 (tn 3) ?_
 obtain⟨y5,hy,h⟩:=aS h
 refine clc false [.t (.sl Y77), .t (.sl Y73), .t Y53] [] (some 17) K (ok74 N _ _ _ hy) <| nN K (tn 4) ?_
 cases h; exact VW.ret (rt [some 1])
def F21_j0 (N : Nat) (a2 : (List Z53)) (x19 : (List Z73)) : Option ((List Z73) × Int) :=
  some (x19, (a2.length : Int))
def F21_l0_b (N : Nat) (a0 : (List Z77)) (a2 : (List Z53)) (nx33 : (List Z73) → Int → Int → Option ((List Z73) × Int)) (x26 : (List Z73)) (x27 : Int) (x28 : Int) : Option ((List Z73) × Int) :=
  cond (decide (x28 < x27)) (gd (InR x28 a2.length) (andO (F29 N a0 x26 (a2.getD x28.toNat (Ty.dflt Y53))) fun y37 => cond (!y37.2) (some (x26, x28)) (nx33 y37.1 x27 (IntKind.i64.wrap (x28 + (1 : Int)))))) (F21_j0 N a2 x26)
def F21_l0 (N : Nat) (a0 : (List Z77)) (a2 : (List Z53)) := loopF (F21_l0_b N a0 a2) (fun _ _ _ => none)
theorem F21_l0_s N a0 a2 {k} (hk : 0 < k) x26 x27 x28 : F21_l0 N a0 a2 k x26 x27 x28 = F21_l0_b N a0 a2 (F21_l0 N a0 a2 (k - 1)) x26 x27 x28 := by cases k;cases hk;rfl
def F21 (N : Nat) (a0 : (List Z77)) (a1 : (List Z73)) (a2 : (List Z53)) : Option ((List Z73) × Int) :=
  andO (F47 N a1) fun y1 => cond (decide ((a2.length : Int) > (20 : Int))) (some (y1, (0 : Int))) (F21_l0 N a0 a2 N y1 (a2.length : Int) (0 : Int))
theorem ok21 N a0 a1 a2 {r} (h : F21 N a0 a1 a2 = some r) : Con prog 21 [Vv (.sl Y77) a0, Vv (.sl Y73) a1, Vv (.sl Y53) a2] [.lf (.own Y73 r.1 .dp), .lf (.v (.int .i64) r.2)] := by
 refine ctr [.lf (.own Y73 .dp), .lf (.v (.int .i64))] K func21 rfl fun w0 E0 ht => ?_
 unfold F21 at h
 show VW _ _ _ _ _ (retQ _ _ _ _) _
 refine nR K (tn 2) <| sq <| VW.region <| nG K 1 (tn 1) ?_
 obtain⟨y1,hy,h⟩:=aS h
 refine clc false [.t (.sl Y73)] [] (some 14) K (ok47 N _ hy) <| nN K (tn 1) <| sq <| nR K (tn 3) ?_
 refine cnd h ?_ ?_<;>intro h
 ·refine nR K (tn 3) ?_
  cases h; exact VW.ret (rt [some 0])
 refine VW.skip ?_
 refine VW.join (fun s => ∃ x19, s = ⟨[(2, Vv (.sl Y53) a2), (8, hh 0)], [ar 0 Y73 x19 .dp]⟩ ∧ F21_j0 N a2 x19 = some r) ?_ ?_
 ·refine nR K (tn 3) <| VW.block <| lop (fun k s => ∃ x26 x27 x28, s = ⟨[(0, Vv (.sl Y77) a0), (2, Vv (.sl Y53) a2), (8, hh 0), (19, Vv (.sl Y53) a2), (20, I x27), (21, I x28)], [ar 0 Y73 x26 .dp]⟩ ∧ F21_l0 N a0 a2 k x26 x27 x28 = some r) N [.ren [0, 2, 8, 19, 20, 21] [0]] ⟨y1, (a2.length : Int), (0 : Int), rfl, h⟩ ?_
  rintro k33 s ⟨x26, x27, x28, rfl, h⟩
  cases k33 with
  | zero => cases show none = some r from h
  | succ k33 =>
   replace h : F21_l0_b N a0 a2 (F21_l0 N a0 a2 k33) x26 x27 x28 = some r := h
   unfold F21_l0_b at h
   refine nR K (tn 1) <| sq ?_
   refine cnd h ?_ ?_<;>intro h
   ·refine VW.skip <| sq <| VW.block ?_
    obtain⟨g36,h⟩:=gS h
    refine nR K (pu 1 (an g36 (tn 4))) <| sq <| VW.region <| nG K 3 (tn 3) ?_
    obtain⟨y37,hy,h⟩:=aS h
    refine clc true [.t (.sl Y77), .t (.sl Y73), .t Y53] [] (some 30) K (ok29 N _ _ _ hy) <| nN K (tn 5) <| sq <| nR K (tn 2) ?_
    refine cnd h ?_ ?_<;>intro h
    ·refine nR K (tn 4) ?_
     cases h; exact VW.ret (rt [some 0])
    refine VW.skip <| nE K (tn 2) <| nE K (tn 2) ?_
    exact aro [.ren [0, 2, 8, 19, 20, 21] [2]] ⟨y37.1, x27, (wr (x28 + (1 : Int))), rfl, h⟩
   refine VW.exit ?_
   exact arv [.ren [2, 8] [0]] ⟨x26, rfl, h⟩
 rintro s ⟨x19, rfl, h⟩
 unfold F21_j0 at h
 refine nR K (tn 5) ?_
 cases h; exact VW.ret (rt [some 0])
def F71_j0 (N : Nat) : Option (Bool) :=
  some true
def F71_l0_b (N : Nat) (a0 : (List Z73)) (a1 : (List Z73)) (p2 : Z73 → Z73 → Option (Bool)) (nx39 : Int → Int → Option (Bool)) (x31 : Int) (x32 : Int) : Option (Bool) :=
  cond (decide (x32 < x31)) (gd (InR x32 a0.length) (gd (InR x32 a1.length) (andO (p2 (a0.getD x32.toNat (Ty.dflt Y73)) (a1.getD x32.toNat (Ty.dflt Y73))) fun y45 => cond (!y45) (some false) (nx39 x31 (IntKind.i64.wrap (x32 + (1 : Int))))))) (F71_j0 N)
def F71_l0 (N : Nat) (a0 : (List Z73)) (a1 : (List Z73)) (p2 : Z73 → Z73 → Option (Bool)) := loopF (F71_l0_b N a0 a1 p2) (fun _ _ => none)
theorem F71_l0_s N a0 a1 (p2 : Z73 → Z73 → Option (Bool)) {k} (hk : 0 < k) x31 x32 : F71_l0 N a0 a1 p2 k x31 x32 = F71_l0_b N a0 a1 p2 (F71_l0 N a0 a1 p2 (k - 1)) x31 x32 := by cases k;cases hk;rfl
def F71 (N : Nat) (a0 : (List Z73)) (a1 : (List Z73)) (p2 : Z73 → Z73 → Option (Bool)) : Option (Bool) :=
  cond ((a0.length : Int) != (a1.length : Int)) (some false) (F71_l0 N a0 a1 p2 N (a0.length : Int) (0 : Int))
theorem ok71 N a0 a1 (g2 : FuncId) (p2 : Z73 → Z73 → Option (Bool)) (hp2 : ∀ (z0 : Z73) (z1 : Z73) (r : Bool), p2 z0 z1 = some r → Con prog g2 [.agg (lv Y73 z0), .agg (lv Y73 z1)] [.lf (.v .bool r)]) {r} (h : F71 N a0 a1 p2 = some r) : Con prog 71 [Vv (.sl Y73) a0, Vv (.sl Y73) a1, .clo g2 []] [.lf (.v .bool r)] := by
 refine ctr [.lf (.v .bool)] K func71 rfl fun w0 E0 ht => ?_
 unfold F71 at h
 show VW _ _ _ _ _ (retQ _ _ _ _) _
 refine nR K (tn 1) <| sq <| nR K (tn 5) ?_
 refine cnd h ?_ ?_<;>intro h
 ·refine nR K (tn 1) ?_
  cases h; exact VW.ret (rt [])
 refine VW.skip ?_
 refine VW.join (fun s => s = ⟨[], []⟩ ∧ F71_j0 N = some r) ?_ ?_
 ·refine nR K (tn 3) <| VW.block <| lop (fun k s => ∃ x31 x32, s = ⟨[(1, Vv (.sl Y73) a1), (2, .clo g2 []), (15, Vv (.sl Y73) a0), (16, I x31), (17, I x32)], []⟩ ∧ F71_l0 N a0 a1 p2 k x31 x32 = some r) N [.ren [1, 2, 15, 16, 17] []] ⟨(a0.length : Int), (0 : Int), rfl, h⟩ ?_
  rintro k39 s ⟨x31, x32, rfl, h⟩
  cases k39 with
  | zero => cases show none = some r from h
  | succ k39 =>
   replace h : F71_l0_b N a0 a1 p2 (F71_l0 N a0 a1 p2 k39) x31 x32 = some r := h
   unfold F71_l0_b at h
   refine nR K (tn 1) <| sq ?_
   refine cnd h ?_ ?_<;>intro h
   ·refine VW.skip <| sq <| VW.block ?_
    obtain⟨g43,h⟩:=gS h
    refine nR K (pu 1 (an g43 (tn 4))) ?_
    obtain⟨g44,h⟩:=gS h
    refine nR K (pu 2 (an g44 (tn 3))) <| sq <| VW.region <| nG K 3 (tn 3) ?_
    obtain⟨y45,hy,h⟩:=aS h
    refine clc false [.t Y73, .t Y73] [] (some 29) K (hp2 _ _ _ hy) <| nN K (tn 1) ?_
    refine cnd h ?_ ?_<;>intro h
    ·refine nR K (tn 1) ?_
     cases h; exact VW.ret (rt [])
    refine VW.skip <| nE K (tn 2) ?_
    exact aro [.ren [1, 2, 15, 16, 17] []] ⟨x31, (wr (x32 + (1 : Int))), rfl, h⟩
   refine VW.exit ?_
   exact arv [.ren [] []] ⟨rfl, h⟩
 rintro s ⟨rfl, h⟩
 unfold F71_j0 at h
 refine nR K (tn 1) ?_
 cases h; exact VW.ret (rt [])
def F22 (N : Nat) (a0 : (List Z73)) (a1 : (List Z73)) : Option (Bool) :=
  andO (F71 N a0 a1 (fun z0 z1 => F72 N z0 z1)) fun y1 => some y1
theorem ok22 N a0 a1 {r} (h : F22 N a0 a1 = some r) : Con prog 22 [Vv (.sl Y73) a0, Vv (.sl Y73) a1] [.lf (.v .bool r)] := by
 refine ctr [.lf (.v .bool)] K func22 rfl fun w0 E0 ht => ?_
 unfold F22 at h
 show VW _ _ _ _ _ (retQ _ _ _ _) _
 refine nR K (tn 1) <| sq <| VW.region <| nG K 2 (tn 2) ?_
 obtain⟨y1,hy,h⟩:=aS h
 refine clc false [.t (.sl Y73), .t (.sl Y73), .clo []] [] (some 7) K (ok71 N _ _ 72  (fun z0 z1 => F72 N z0 z1 ) (fun z0 z1 _ hz => ok72 N z0 z1 hz) hy) <| nN K (tn 1) ?_
 cases h; exact VW.ret (rt [])
def F33 (N : Nat) (a0 : Z53) : Option (ByteArray) :=
  andO (F50 N a0.1) fun y1 => gd (y1.size + (⟨#[64]⟩ : ByteArray).size ≤ 9223372036854775807) (andO (F50 N a0.2) fun y3 => gd ((y1 ++ (⟨#[64]⟩ : ByteArray)).size + y3.size ≤ 9223372036854775807) (some ((y1 ++ (⟨#[64]⟩ : ByteArray)) ++ y3)))
theorem ok33 N a0 {r} (h : F33 N a0 = some r) : Con prog 33 [.agg (lv Y53 a0)] [.lf (.v .str r)] := by
 refine ctr [.lf (.v .str)] K func33 rfl fun w0 E0 ht => ?_
 unfold F33 at h
 show VW _ _ _ _ _ (retQ _ _ _ _) _
 refine nR K (tn 2) <| sq ?_
 obtain⟨y1,hy1,h⟩:=aS h
 obtain⟨g2,h⟩:=gS h
 obtain⟨y3,hy3,h⟩:=aS h
 obtain⟨g4,h⟩:=gS h
 refine dr K [(2, .cl [] (some 5) [.lf (.v .str y1)]), (6, .cl [] (some 9) [.lf (.v .str y3)])] [(2, 0), (6, 0)] [] [2] [] (pu 3 (an g2 (pu 3 (an g4 (tn 1))))) ⟨qC false [.t (.int .i64)] [] [] (some 5) K (ok50 N _ hy1), qC false [.t (.int .i64)] [] [] (some 9) K (ok50 N _ hy3), trivial⟩ ?_
 cases h; exact VW.ret (rt [])
def F23_j0 (N : Nat) (x24 : (List ByteArray)) : Option (ByteArray) :=
  andO (F51 N x24) fun y25 => some y25
def F23_l0_b (N : Nat) (a0 : (List Z53)) (nx43 : (List ByteArray) → Int → Int → Option (ByteArray)) (x34 : (List ByteArray)) (x35 : Int) (x36 : Int) : Option (ByteArray) :=
  cond (decide (x36 < x35)) (gd (InR x36 a0.length) (andO (F33 N (a0.getD x36.toNat (Ty.dflt Y53))) fun y48 => gd (x34.length + ([y48]).length ≤ lim .str) (nx43 (x34 ++ ([y48])) x35 (IntKind.i64.wrap (x36 + (1 : Int)))))) (F23_j0 N x34)
def F23_l0 (N : Nat) (a0 : (List Z53)) := loopF (F23_l0_b N a0) (fun _ _ _ => none)
theorem F23_l0_s N a0 {k} (hk : 0 < k) x34 x35 x36 : F23_l0 N a0 k x34 x35 x36 = F23_l0_b N a0 (F23_l0 N a0 (k - 1)) x34 x35 x36 := by cases k;cases hk;rfl
def F23 (N : Nat) (a0 : (List Z53)) : Option (ByteArray) :=
  cond (decide ((a0.length : Int) > (20 : Int))) (some ByteArray.empty) (F23_l0 N a0 N ([]) (a0.length : Int) (0 : Int))
theorem ok23 N a0 {r} (h : F23 N a0 = some r) : Con prog 23 [Vv (.sl Y53) a0] [.lf (.v .str r)] := by
 refine ctr [.lf (.v .str)] K func23 rfl fun w0 E0 ht => ?_
 unfold F23 at h
 show VW _ _ _ _ _ (retQ _ _ _ _) _
 refine nR K (tn 1) <| sq <| nR K (tn 3) ?_
 refine cnd h ?_ ?_<;>intro h
 ·refine nR K (tn 1) ?_
  cases h; exact VW.ret (rt [])
 refine VW.skip <| nR K (tn 1) ?_
 refine VW.join (fun s => ∃ x24, s = ⟨[(3, hh 0)], [ar 0 .str x24 .dp]⟩ ∧ F23_j0 N x24 = some r) ?_ ?_
 ·refine nR K (tn 3) <| VW.block <| lop (fun k s => ∃ x34 x35 x36, s = ⟨[(3, hh 0), (9, Vv (.sl Y53) a0), (10, I x35), (11, I x36)], [ar 0 .str x34 .dp]⟩ ∧ F23_l0 N a0 k x34 x35 x36 = some r) N [.nilS 3 .str .dp, .ren [3, 9, 10, 11] [0]] ⟨[], (a0.length : Int), (0 : Int), rfl, h⟩ ?_
  rintro k43 s ⟨x34, x35, x36, rfl, h⟩
  cases k43 with
  | zero => cases show none = some r from h
  | succ k43 =>
   replace h : F23_l0_b N a0 (F23_l0 N a0 k43) x34 x35 x36 = some r := h
   unfold F23_l0_b at h
   refine nR K (tn 1) <| sq ?_
   refine cnd h ?_ ?_<;>intro h
   ·refine VW.skip <| sq <| VW.block ?_
    obtain⟨g47,h⟩:=gS h
    refine nR K (an g47 (tn 3)) <| VW.region <| nG K 2 (tn 2) ?_
    obtain⟨y48,hy,h⟩:=aS h
    refine clc false [.t Y53] [] (some 17) K (ok33 N _ hy) ?_
    obtain⟨g49,h⟩:=gS h
    refine nN K (pu 1 (an g49 (tn 1))) <| nE K (tn 2) ?_
    exact aro [.ren [3, 9, 10, 11] [0]] ⟨(x34 ++ ([y48])), x35, (wr (x36 + (1 : Int))), rfl, h⟩
   refine VW.exit ?_
   exact arv [.ren [3] [0]] ⟨x34, rfl, h⟩
 rintro s ⟨x24, rfl, h⟩
 unfold F23_j0 at h
 refine sq <| VW.region <| nG K 1 (tn 1) ?_
 obtain⟨y25,hy,h⟩:=aS h
 refine clc true [.t (.sl .str)] [] (some 22) K (ok51 N _ hy) <| nN K (tn 1) ?_
 cases h; exact VW.ret (rt [])
def F73 (N : Nat) (a0 : Z53) : Option (ByteArray) :=
  andO (F78 N a0.1) fun y1 => gd (y1.size + (⟨#[64]⟩ : ByteArray).size ≤ 9223372036854775807) (andO (F78 N a0.2) fun y3 => gd ((y1 ++ (⟨#[64]⟩ : ByteArray)).size + y3.size ≤ 9223372036854775807) (some ((y1 ++ (⟨#[64]⟩ : ByteArray)) ++ y3)))
theorem ok73 N a0 {r} (h : F73 N a0 = some r) : Con prog 73 [.agg (lv Y53 a0)] [.lf (.v .str r)] := by
 refine ctr [.lf (.v .str)] K func73 rfl fun w0 E0 ht => ?_
 unfold F73 at h
 show VW _ _ _ _ _ (retQ _ _ _ _) _
 refine nR K (tn 2) <| sq ?_
 obtain⟨y1,hy1,h⟩:=aS h
 obtain⟨g2,h⟩:=gS h
 obtain⟨y3,hy3,h⟩:=aS h
 obtain⟨g4,h⟩:=gS h
 refine dr K [(2, .cl [] (some 5) [.lf (.v .str y1)]), (6, .cl [] (some 9) [.lf (.v .str y3)])] [(2, 0), (6, 0)] [] [2] [] (pu 3 (an g2 (pu 3 (an g4 (tn 1))))) ⟨qC false [.t (.int .i64)] [] [] (some 5) K (ok78 N _ hy1), qC false [.t (.int .i64)] [] [] (some 9) K (ok78 N _ hy3), trivial⟩ ?_
 cases h; exact VW.ret (rt [])
def F24_j0 (N : Nat) (x46 : ByteArray) : Option (ByteArray) :=
  some x46
def F24_j1 (N : Nat) (a0 : (List Z53)) (nx78 : ByteArray → Int → Option (ByteArray)) (x63 : Int) (x87 : ByteArray) : Option (ByteArray) :=
  gd (InR x63 a0.length) (andO (F73 N (a0.getD x63.toNat (Ty.dflt Y53))) fun y89 => gd (x87.size + y89.size ≤ 9223372036854775807) (nx78 (x87 ++ y89) (IntKind.i64.wrap (x63 + (1 : Int)))))
def F24_l0_b (N : Nat) (a0 : (List Z53)) (nx78 : ByteArray → Int → Option (ByteArray)) (x62 : ByteArray) (x63 : Int) : Option (ByteArray) :=
  cond (decide (x63 < (a0.length : Int))) (cond (decide (x63 > (0 : Int))) (gd (x62.size + (⟨#[32]⟩ : ByteArray).size ≤ 9223372036854775807) (F24_j1 N a0 nx78 x63 (x62 ++ (⟨#[32]⟩ : ByteArray)))) (F24_j1 N a0 nx78 x63 x62)) (F24_j0 N x62)
def F24_l0 (N : Nat) (a0 : (List Z53)) := loopF (F24_l0_b N a0) (fun _ _ => none)
theorem F24_l0_s N a0 {k} (hk : 0 < k) x62 x63 : F24_l0 N a0 k x62 x63 = F24_l0_b N a0 (F24_l0 N a0 (k - 1)) x62 x63 := by cases k;cases hk;rfl
def F24 (N : Nat) (a0 : (List Z53)) : Option (ByteArray) :=
  cond (decide ((a0.length : Int) > (20 : Int))) (some ByteArray.empty) (F24_l0 N a0 N ByteArray.empty (0 : Int))
theorem ok24 N a0 {r} (h : F24 N a0 = some r) : Con prog 24 [Vv (.sl Y53) a0] [.lf (.v .str r)] := by
 refine ctr [.lf (.v .str)] K func24 rfl fun w0 E0 ht => ?_
 unfold F24 at h
 show VW _ _ _ _ _ (retQ _ _ _ _) _
 refine nR K (tn 1) <| nR K (tn 1) <| sq <| nR K (tn 3) ?_
 refine cnd h ?_ ?_<;>intro h
 ·refine nR K (tn 1) ?_
  cases h; exact VW.ret (rt [])
 refine VW.skip ?_
 refine VW.join (fun s => ∃ x46, s = ⟨[(3, S x46)], []⟩ ∧ F24_j0 N x46 = some r) ?_ ?_
 ·refine nR K (tn 1) <| VW.block <| lop (fun k s => ∃ x62 x63, s = ⟨[(0, Vv (.sl Y53) a0), (3, S x62), (4, I x63)], []⟩ ∧ F24_l0 N a0 k x62 x63 = some r) N [.ren [0, 3, 4] []] ⟨ByteArray.empty, (0 : Int), rfl, h⟩ ?_
  rintro k78 s ⟨x62, x63, rfl, h⟩
  cases k78 with
  | zero => cases show none = some r from h
  | succ k78 =>
   replace h : F24_l0_b N a0 (F24_l0 N a0 k78) x62 x63 = some r := h
   unfold F24_l0_b at h
   refine sq <| nR K (tn 4) ?_
   refine cnd h ?_ ?_<;>intro h
   ·refine VW.skip <| sq <| VW.block ?_
    refine VW.join (fun s => ∃ x87, s = ⟨[(0, Vv (.sl Y53) a0), (3, S x87), (4, I x63)], []⟩ ∧ F24_j1 N a0 (F24_l0 N a0 k78) x63 x87 = some r) ?_ ?_
    ·refine nR K (tn 2) ?_
     refine cnd h ?_ ?_<;>intro h
     ·obtain⟨g92,h⟩:=gS h
      refine nE K (pu 1 (an g92 (tn 1))) ?_
      exact arv [.ren [0, 3, 4] []] ⟨(x62 ++ (⟨#[32]⟩ : ByteArray)), rfl, h⟩
     refine VW.skip ?_
     exact arv [.ren [0, 3, 4] []] ⟨x62, rfl, h⟩
    rintro s ⟨x87, rfl, h⟩
    unfold F24_j1 at h
    refine VW.region ?_
    obtain⟨g88,h⟩:=gS h
    refine nG K 5 (pu 3 (an g88 (tn 1))) ?_
    obtain⟨y89,hy,h⟩:=aS h
    refine clc false [.t Y53] [] (some 23) K (ok73 N _ hy) ?_
    obtain⟨g90,h⟩:=gS h
    refine nN K (an g90 (tn 1)) <| nE K (tn 3) ?_
    exact aro [.ren [0, 3, 4] []] ⟨(x87 ++ y89), (wr (x63 + (1 : Int))), rfl, h⟩
   refine VW.exit ?_
   exact arv [.ren [3] []] ⟨x62, rfl, h⟩
 rintro s ⟨x46, rfl, h⟩
 unfold F24_j0 at h
 refine nR K (tn 2) ?_
 cases h; exact VW.ret (rt [])
def F26 (N : Nat) (a0 : (List Z77)) (a1 : (List Z73)) (a2 : (List Z73)) (a3 : (List Z53)) : Option (Bool) :=
  andO (F9 N a0 a1) fun y2 => cond (!y2) (some false) (cond (decide ((a3.length : Int) > (20 : Int))) (some false) (andO (F21 N a0 a1 a3) fun y3 => cond (y3.2 == (a3.length : Int)) (andO (F22 N y3.1 a2) fun y4 => some y4) (some false)))
theorem ok26 N a0 a1 a2 a3 {r} (h : F26 N a0 a1 a2 a3 = some r) : Con prog 26 [Vv (.sl Y77) a0, Vv (.sl Y73) a1, Vv (.sl Y73) a2, Vv (.sl Y53) a3] [.lf (.v .bool r)] := by
 refine ctr [.lf (.v .bool)] K func26 rfl fun w0 E0 ht => ?_
 unfold F26 at h
 show VW _ _ _ _ _ (retQ _ _ _ _) _
 refine nR K (tn 1) <| sq <| sq <| VW.region <| nG K 2 (tn 2) ?_
 obtain⟨y2,hy,h⟩:=aS h
 refine clc false [.t (.sl Y77), .t (.sl Y73)] [] (some 13) K (ok9 N _ _ hy) <| nG K 2 (tn 2) ?_
 refine spC 15 h ?_ ?_<;>intro h
 ·refine nN K (tn 4) ?_
  refine VW.cond (b := true) (by kernel_rfl) (fun _ => ?_) (fun h' => nomatch h')
  refine nR K (tn 1) ?_
  cases h; exact VW.ret (rt [])
 refine nN K (tn 4) ?_
 refine cnd h ?_ ?_<;>intro h
 ·refine nR K (tn 1) ?_
  cases h; exact VW.ret (rt [])
 refine VW.skip <| sq <| VW.region <| nG K 3 (tn 3) ?_
 obtain⟨y3,hy,h⟩:=aS h
 refine clc false [.t (.sl Y77), .t (.sl Y73), .t (.sl Y53)] [] (some 24) K (ok21 N _ _ _ hy) <| nN K (tn 5) <| sq <| VW.region <| nG K 5 (tn 5) ?_
 refine spC 31 h ?_ ?_<;>intro h
 ·refine nG K 2 (tn 2) <| VO.on (j := 4) (want := true) (d := 31) (b := true) rfl rfl rfl (by kernel_rfl) rfl ?_
  obtain⟨y4,hy,h⟩:=aS h
  refine clc true [.t (.sl Y73), .t (.sl Y73)] [] (some 34) K (ok22 N _ _ hy) <| nN K (tn 2) ?_
  cases h; exact VW.ret (rt [])
 refine nN K (tn 5) ?_
 cases h; exact VW.ret (rt [])
def F27_j0 (N : Nat) (x140 : (List Z53)) : Option ((List Z53)) :=
  some x140
def F27_j1 (N : Nat) (nx234 : (List Z53) → Int → Int → Option ((List Z53))) (x188 : Int) (x189 : Int) (x256 : (List Z53)) : Option ((List Z53)) :=
  nx234 x256 x188 (IntKind.i64.wrap (x189 + (1 : Int)))
def F27_j2 (N : Nat) (nx272 : (List Z53) → Int → Option ((List Z53))) (x265 : Int) (x275 : (List Z53)) : Option ((List Z53)) :=
  nx272 x275 (IntKind.i64.wrap (x265 + (1 : Int)))
def F27_l0_b (N : Nat) (a0 : (List Z77)) (a1 : (List Z73)) (nx234 : (List Z53) → Int → Int → Option ((List Z53))) (x188 : Int) (x189 : Int) (nx272 : (List Z53) → Int → Option ((List Z53))) (x264 : (List Z53)) (x265 : Int) : Option ((List Z53)) :=
  cond (decide (x265 < (12 : Int))) (andO (F74 N a0 a1 (x265, x189)) fun y277 => cond y277.2 (gd (x264.length + ([(x265, x189)]).length ≤ lim Y53) (F27_j2 N nx272 x265 (x264 ++ ([(x265, x189)])))) (F27_j2 N nx272 x265 x264)) (F27_j1 N nx234 x188 x189 x264)
def F27_l0 (N : Nat) (a0 : (List Z77)) (a1 : (List Z73)) (nx234 : (List Z53) → Int → Int → Option ((List Z53))) (x188 : Int) (x189 : Int) := loopF (F27_l0_b N a0 a1 nx234 x188 x189) (fun _ _ => none)
theorem F27_l0_s N a0 a1 nx234 x188 x189 {k} (hk : 0 < k) x264 x265 : F27_l0 N a0 a1 nx234 x188 x189 k x264 x265 = F27_l0_b N a0 a1 nx234 x188 x189 (F27_l0 N a0 a1 nx234 x188 x189 (k - 1)) x264 x265 := by cases k;cases hk;rfl
def F27_l1_b (N : Nat) (a0 : (List Z77)) (a1 : (List Z73)) (nx234 : (List Z53) → Int → Int → Option ((List Z53))) (x187 : (List Z53)) (x188 : Int) (x189 : Int) : Option ((List Z53)) :=
  cond (decide (x189 < x188)) (F27_l0 N a0 a1 nx234 x188 x189 N x187 (0 : Int)) (F27_j0 N x187)
def F27_l1 (N : Nat) (a0 : (List Z77)) (a1 : (List Z73)) := loopF (F27_l1_b N a0 a1) (fun _ _ _ => none)
theorem F27_l1_s N a0 a1 {k} (hk : 0 < k) x187 x188 x189 : F27_l1 N a0 a1 k x187 x188 x189 = F27_l1_b N a0 a1 (F27_l1 N a0 a1 (k - 1)) x187 x188 x189 := by cases k;cases hk;rfl
def F27 (N : Nat) (a0 : (List Z77)) (a1 : (List Z73)) : Option ((List Z53)) :=
  andO (F9 N a0 a1) fun y2 => cond (!y2) (some ([])) (F27_l1 N a0 a1 N ([]) (a1.length : Int) (0 : Int))
theorem ok27 N a0 a1 {r} (h : F27 N a0 a1 = some r) : Con prog 27 [Vv (.sl Y77) a0, Vv (.sl Y73) a1] [.lf (.own Y53 r .dp)] := by
 refine ctr [.lf (.own Y53 .dp)] K func27 rfl fun w0 E0 ht => ?_
 unfold F27 at h
 show VW _ _ _ _ _ (retQ _ _ _ _) _
 refine nR K (tn 1) <| sq <| sq <| VW.region <| nG K 2 (tn 2) ?_
 obtain⟨y2,hy,h⟩:=aS h
 refine clc false [.t (.sl Y77), .t (.sl Y73)] [] (some 13) K (ok9 N _ _ hy) <| nN K (tn 1) ?_
 refine cnd h ?_ ?_<;>intro h
 ·refine nR K (tn 1) ?_
  cases h; exact VW.ret (rt [none])
 refine VW.skip <| nR K (tn 1) ?_
 refine VW.join (fun s => ∃ x140, s = ⟨[(5, hh 0)], [ar 0 Y53 x140 .dp]⟩ ∧ F27_j0 N x140 = some r) ?_ ?_
 ·refine nR K (tn 3) <| VW.block <| lop (fun k s => ∃ x187 x188 x189, s = ⟨[(0, Vv (.sl Y77) a0), (1, Vv (.sl Y73) a1), (5, hh 0), (16, I x188), (17, I x189)], [ar 0 Y53 x187 .dp]⟩ ∧ F27_l1 N a0 a1 k x187 x188 x189 = some r) N [.nilS 5 Y53 .dp, .ren [0, 1, 5, 16, 17] [0]] ⟨[], (a1.length : Int), (0 : Int), rfl, h⟩ ?_
  rintro k234 s ⟨x187, x188, x189, rfl, h⟩
  cases k234 with
  | zero => cases show none = some r from h
  | succ k234 =>
   replace h : F27_l1_b N a0 a1 (F27_l1 N a0 a1 k234) x187 x188 x189 = some r := h
   unfold F27_l1_b at h
   refine nR K (tn 1) <| sq ?_
   refine cnd h ?_ ?_<;>intro h
   ·refine VW.skip ?_
    refine VW.join (fun s => ∃ x256, s = ⟨[(0, Vv (.sl Y77) a0), (1, Vv (.sl Y73) a1), (5, hh 0), (16, I x188), (17, I x189)], [ar 0 Y53 x256 .dp]⟩ ∧ F27_j1 N (F27_l1 N a0 a1 k234) x188 x189 x256 = some r) ?_ ?_
    ·refine VW.block <| nR K (tn 2) <| nR K (tn 1) <| VW.block <| lop (fun k s => ∃ x264 x265, s = ⟨[(0, Vv (.sl Y77) a0), (1, Vv (.sl Y73) a1), (5, hh 0), (6, I x189), (16, I x188), (17, I x189), (20, I x265)], [ar 0 Y53 x264 .dp]⟩ ∧ F27_l0 N a0 a1 (F27_l1 N a0 a1 k234) x188 x189 k x264 x265 = some r) N [.ren [0, 1, 5, 6, 16, 17, 20] [0]] ⟨x187, (0 : Int), rfl, h⟩ ?_
     rintro k272 s ⟨x264, x265, rfl, h⟩
     cases k272 with
     | zero => cases show none = some r from h
     | succ k272 =>
      replace h : F27_l0_b N a0 a1 (F27_l1 N a0 a1 k234) x188 x189 (F27_l0 N a0 a1 (F27_l1 N a0 a1 k234) x188 x189 k272) x264 x265 = some r := h
      unfold F27_l0_b at h
      refine nR K (tn 1) <| sq ?_
      refine cnd h ?_ ?_<;>intro h
      ·refine VW.skip ?_
       refine VW.join (fun s => ∃ x275, s = ⟨[(0, Vv (.sl Y77) a0), (1, Vv (.sl Y73) a1), (5, hh 0), (6, I x189), (16, I x188), (17, I x189), (20, I x265)], [ar 0 Y53 x275 .dp]⟩ ∧ F27_j2 N (F27_l0 N a0 a1 (F27_l1 N a0 a1 k234) x188 x189 k272) x265 x275 = some r) ?_ ?_
       ·refine VW.block <| nR K (tn 2) <| nR K (tn 5) <| sq <| VW.region <| nG K 3 (tn 3) ?_
        obtain⟨y277,hy,h⟩:=aS h
        refine clc false [.t (.sl Y77), .t (.sl Y73), .t Y53] [] (some 30) K (ok74 N _ _ _ hy) <| nN K (tn 5) <| nR K (tn 1) ?_
        refine cnd h ?_ ?_<;>intro h
        ·obtain⟨g278,h⟩:=gS h
         refine nE K (pu 3 (an g278 (tn 1))) ?_
         exact arv [.ren [0, 1, 5, 6, 16, 17, 20] [0]] ⟨(x264 ++ ([(x265, x189)])), rfl, h⟩
        refine VW.skip ?_
        exact arv [.ren [0, 1, 5, 6, 16, 17, 20] [0]] ⟨x264, rfl, h⟩
       rintro s ⟨x275, rfl, h⟩
       unfold F27_j2 at h
       refine nE K (tn 2) ?_
       exact aro [.ren [0, 1, 5, 6, 16, 17, 20] [0]] ⟨x275, (wr (x265 + (1 : Int))), rfl, h⟩
      refine VW.exit ?_
      exact arv [.ren [0, 1, 5, 16, 17] [0]] ⟨x264, rfl, h⟩
    rintro s ⟨x256, rfl, h⟩
    unfold F27_j1 at h
    refine nE K (tn 2) ?_
    exact aro [.ren [0, 1, 5, 16, 17] [0]] ⟨x256, x188, (wr (x189 + (1 : Int))), rfl, h⟩
   refine VW.exit ?_
   exact arv [.ren [5] [0]] ⟨x187, rfl, h⟩
 rintro s ⟨x140, rfl, h⟩
 unfold F27_j0 at h
 refine nR K (tn 2) ?_
 cases h; exact VW.ret (rt [some 0])
def F30 (N : Nat) (a0 : Int) : Option (ByteArray) :=
  andO (F61 N a0 (0 : Int) (11 : Int)) fun y2 => cond (!y2) (some ByteArray.empty) (gd (InR a0 ([(⟨#[102, 105, 108, 116, 101, 114, 115]⟩ : ByteArray), (⟨#[102, 105, 108, 116, 101, 114, 45, 115, 111, 114, 116]⟩ : ByteArray), (⟨#[108, 105, 109, 105, 116, 115]⟩ : ByteArray), (⟨#[115, 111, 114, 116, 115]⟩ : ByteArray), (⟨#[102, 105, 108, 116, 101, 114, 45, 98, 111, 116, 104]⟩ : ByteArray), (⟨#[102, 105, 108, 116, 101, 114, 45, 108, 101, 102, 116]⟩ : ByteArray), (⟨#[102, 105, 108, 116, 101, 114, 45, 114, 105, 103, 104, 116]⟩ : ByteArray), (⟨#[111, 110, 99, 101, 115]⟩ : ByteArray), (⟨#[107, 101, 101, 112, 115]⟩ : ByteArray), (⟨#[108, 105, 109, 105, 116, 45, 107, 101, 101, 112]⟩ : ByteArray), (⟨#[102, 105, 108, 116, 101, 114, 45, 107, 101, 101, 112]⟩ : ByteArray), (⟨#[111, 110, 99, 101, 45, 115, 111, 114, 116]⟩ : ByteArray)]).length) (gd (a0.toNat < ([(⟨#[102, 105, 108, 116, 101, 114, 115]⟩ : ByteArray), (⟨#[102, 105, 108, 116, 101, 114, 45, 115, 111, 114, 116]⟩ : ByteArray), (⟨#[108, 105, 109, 105, 116, 115]⟩ : ByteArray), (⟨#[115, 111, 114, 116, 115]⟩ : ByteArray), (⟨#[102, 105, 108, 116, 101, 114, 45, 98, 111, 116, 104]⟩ : ByteArray), (⟨#[102, 105, 108, 116, 101, 114, 45, 108, 101, 102, 116]⟩ : ByteArray), (⟨#[102, 105, 108, 116, 101, 114, 45, 114, 105, 103, 104, 116]⟩ : ByteArray), (⟨#[111, 110, 99, 101, 115]⟩ : ByteArray), (⟨#[107, 101, 101, 112, 115]⟩ : ByteArray), (⟨#[108, 105, 109, 105, 116, 45, 107, 101, 101, 112]⟩ : ByteArray), (⟨#[102, 105, 108, 116, 101, 114, 45, 107, 101, 101, 112]⟩ : ByteArray), (⟨#[111, 110, 99, 101, 45, 115, 111, 114, 116]⟩ : ByteArray)]).length) (some (([(⟨#[102, 105, 108, 116, 101, 114, 115]⟩ : ByteArray), (⟨#[102, 105, 108, 116, 101, 114, 45, 115, 111, 114, 116]⟩ : ByteArray), (⟨#[108, 105, 109, 105, 116, 115]⟩ : ByteArray), (⟨#[115, 111, 114, 116, 115]⟩ : ByteArray), (⟨#[102, 105, 108, 116, 101, 114, 45, 98, 111, 116, 104]⟩ : ByteArray), (⟨#[102, 105, 108, 116, 101, 114, 45, 108, 101, 102, 116]⟩ : ByteArray), (⟨#[102, 105, 108, 116, 101, 114, 45, 114, 105, 103, 104, 116]⟩ : ByteArray), (⟨#[111, 110, 99, 101, 115]⟩ : ByteArray), (⟨#[107, 101, 101, 112, 115]⟩ : ByteArray), (⟨#[108, 105, 109, 105, 116, 45, 107, 101, 101, 112]⟩ : ByteArray), (⟨#[102, 105, 108, 116, 101, 114, 45, 107, 101, 101, 112]⟩ : ByteArray), (⟨#[111, 110, 99, 101, 45, 115, 111, 114, 116]⟩ : ByteArray)]).getD a0.toNat (Ty.dflt .str)))))
theorem ok30 N a0 {r} (h : F30 N a0 = some r) : Con prog 30 [I a0] [.lf (.v .str r)] := by
 refine ctr [.lf (.v .str)] K func30 rfl fun w0 E0 ht => ?_
 unfold F30 at h
 show VW _ _ _ _ _ (retQ _ _ _ _) _
 refine nR K (tn 1) <| sq <| sq <| VW.region <| nG K 1 (tn 1) ?_
 obtain⟨y2,hy,h⟩:=aS h
 refine clc false [.t (.int .i64), .t (.int .i64), .t (.int .i64)] [] (some 4) K (ok61 N _ _ _ hy) <| nN K (tn 1) ?_
 refine cnd h ?_ ?_<;>intro h
 ·refine nR K (tn 1) ?_
  cases h; exact VW.ret (rt [])
 refine VW.skip ?_
 obtain⟨g3,h⟩:=gS h
 obtain⟨g4,h⟩:=gS h
 refine nR K (pu 2 (an g3 (an g4 (tn 1)))) ?_
 cases h; exact VW.ret (rt [])
def F31_j0 (N : Nat) (x49 : (List Int)) : Option ((List Int)) :=
  some x49
def F31_j1 (N : Nat) (nx84 : (List Int) → Int → Int → Option ((List Int))) (x68 : Int) (x69 : Int) (x91 : (List Int)) : Option ((List Int)) :=
  nx84 x91 x68 (IntKind.i64.wrap (x69 + (1 : Int)))
def F31_l0_b (N : Nat) (a0 : (List Z53)) (nx84 : (List Int) → Int → Int → Option ((List Int))) (x67 : (List Int)) (x68 : Int) (x69 : Int) : Option ((List Int)) :=
  cond (decide (x69 < x68)) (gd (InR x69 a0.length) (andO (F61 N ((a0.getD x69.toNat (Ty.dflt Y53)).1) (0 : Int) (11 : Int)) fun y94 => cond y94 (gd (InR ((a0.getD x69.toNat (Ty.dflt Y53)).1) x67.length) (gd (((a0.getD x69.toNat (Ty.dflt Y53)).1).toNat < x67.length) (gd (InR ((a0.getD x69.toNat (Ty.dflt Y53)).1) x67.length) (gd (((a0.getD x69.toNat (Ty.dflt Y53)).1).toNat < x67.length) (F31_j1 N nx84 x68 x69 (x67.set (((a0.getD x69.toNat (Ty.dflt Y53)).1).toNat) (IntKind.i64.wrap ((x67.getD (((a0.getD x69.toNat (Ty.dflt Y53)).1).toNat) (Ty.dflt (.int .i64))) + (1 : Int))))))))) (F31_j1 N nx84 x68 x69 x67))) (F31_j0 N x67)
def F31_l0 (N : Nat) (a0 : (List Z53)) := loopF (F31_l0_b N a0) (fun _ _ _ => none)
theorem F31_l0_s N a0 {k} (hk : 0 < k) x67 x68 x69 : F31_l0 N a0 k x67 x68 x69 = F31_l0_b N a0 (F31_l0 N a0 (k - 1)) x67 x68 x69 := by cases k;cases hk;rfl
def F31 (N : Nat) (a0 : (List Z53)) : Option ((List Int)) :=
  F31_l0 N a0 N (List.replicate (12 : Int).toNat (Ty.dflt (.int .i64))) (a0.length : Int) (0 : Int)
theorem ok31 N a0 {r} (h : F31 N a0 = some r) : Con prog 31 [Vv (.sl Y53) a0] [.lf (.own (.int .i64) r .dp)] := by
 refine ctr [.lf (.own (.int .i64) .dp)] K func31 rfl fun w0 E0 ht => ?_
 unfold F31 at h
 show VW _ _ _ _ _ (retQ _ _ _ _) _
 refine nR K (tn 1) <| nR K (an (show (0 ≤ (12 : Int) ∧ (12 : Int) ≤ (lim (.int .i64) : Int) ∧ (12 : Int) = (12 : Int)) from by decide) (tn 1)) ?_
 refine VW.join (fun s => ∃ x49, s = ⟨[(3, hh 0)], [ar 0 (.int .i64) x49 .dp]⟩ ∧ F31_j0 N x49 = some r) ?_ ?_
 ·refine nR K (tn 3) <| VW.block <| lop (fun k s => ∃ x67 x68 x69, s = ⟨[(3, hh 0), (7, Vv (.sl Y53) a0), (8, I x68), (9, I x69)], [ar 0 (.int .i64) x67 .dp]⟩ ∧ F31_l0 N a0 k x67 x68 x69 = some r) N [.ren [3, 7, 8, 9] [0]] ⟨(List.replicate (12 : Int).toNat (Ty.dflt (.int .i64))), (a0.length : Int), (0 : Int), rfl, h⟩ ?_
  rintro k84 s ⟨x67, x68, x69, rfl, h⟩
  cases k84 with
  | zero => cases show none = some r from h
  | succ k84 =>
   replace h : F31_l0_b N a0 (F31_l0 N a0 k84) x67 x68 x69 = some r := h
   unfold F31_l0_b at h
   refine nR K (tn 1) <| sq ?_
   refine cnd h ?_ ?_<;>intro h
   ·refine VW.skip ?_
    refine VW.join (fun s => ∃ x91, s = ⟨[(3, hh 0), (7, Vv (.sl Y53) a0), (8, I x68), (9, I x69)], [ar 0 (.int .i64) x91 .dp]⟩ ∧ F31_j1 N (F31_l0 N a0 k84) x68 x69 x91 = some r) ?_ ?_
    ·refine VW.block ?_
     obtain⟨g93,h⟩:=gS h
     refine nR K (an g93 (tn 3)) <| sq <| VW.region <| nG K 2 (tn 2) ?_
     obtain⟨y94,hy,h⟩:=aS h
     refine clc false [.t (.int .i64), .t (.int .i64), .t (.int .i64)] [] (some 15) K (ok61 N _ _ _ hy) <| nN K (tn 0) ?_
     refine cnd h ?_ ?_<;>intro h
     ·obtain⟨g95,h⟩:=gS h
      obtain⟨g96,h⟩:=gS h
      obtain⟨g97,h⟩:=gS h
      obtain⟨g98,h⟩:=gS h
      refine nE K (pu 3 (an g95 (an g96 (pu 1 (an g97 (an g98 (tn 0))))))) ?_
      exact arv [.ren [3, 7, 8, 9] [0]] ⟨(x67.set (((a0.getD x69.toNat D53).1).toNat) (wr ((x67.getD (((a0.getD x69.toNat D53).1).toNat) (Ty.dflt (.int .i64))) + (1 : Int)))), rfl, h⟩
     refine VW.skip ?_
     exact arv [.ren [3, 7, 8, 9] [0]] ⟨x67, rfl, h⟩
    rintro s ⟨x91, rfl, h⟩
    unfold F31_j1 at h
    refine nE K (tn 2) ?_
    exact aro [.ren [3, 7, 8, 9] [0]] ⟨x91, x68, (wr (x69 + (1 : Int))), rfl, h⟩
   refine VW.exit ?_
   exact arv [.ren [3] [0]] ⟨x67, rfl, h⟩
 rintro s ⟨x49, rfl, h⟩
 unfold F31_j0 at h
 refine nR K (tn 2) ?_
 cases h; exact VW.ret (rt [some 0])
def F32_j0 (N : Nat) (x43 : (List Z53)) : Option ((List Z53) × Bool) :=
  cond (decide ((x43.length : Int) > (20 : Int))) (some ([], false)) (some (x43, true))
def F32_l0_b (N : Nat) (y45 : (List ByteArray)) (nx74 : (List Z53) → Int → Int → Option ((List Z53) × Bool)) (x59 : (List Z53)) (x60 : Int) (x61 : Int) : Option ((List Z53) × Bool) :=
  cond (decide (x61 < x60)) (gd (InR x61 y45.length) (gd (x61.toNat < y45.length) (andO (F53 N (y45.getD x61.toNat (Ty.dflt .str)) (⟨#[64]⟩ : ByteArray)) fun y83 => andO (F54 N y83.1) fun y84 => andO (F54 N y83.2.1) fun y85 => cond (!y84.2) (some ([], false)) (cond (!y85.2) (some ([], false)) (cond (decide (y84.1 < (0 : Int))) (some ([], false)) (cond (decide (y85.1 < (0 : Int))) (some ([], false)) (gd (x59.length + ([(y84.1, y85.1)]).length ≤ lim Y53) (nx74 (x59 ++ ([(y84.1, y85.1)])) x60 (IntKind.i64.wrap (x61 + (1 : Int))))))))))) (F32_j0 N x59)
def F32_l0 (N : Nat) (y45 : (List ByteArray)) := loopF (F32_l0_b N y45) (fun _ _ _ => none)
theorem F32_l0_s N y45 {k} (hk : 0 < k) x59 x60 x61 : F32_l0 N y45 k x59 x60 x61 = F32_l0_b N y45 (F32_l0 N y45 (k - 1)) x59 x60 x61 := by cases k;cases hk;rfl
def F32 (N : Nat) (a0 : ByteArray) : Option ((List Z53) × Bool) :=
  cond (a0.toList == ByteArray.empty.toList) (some ([], true)) (andO (F52 N a0 (⟨#[32]⟩ : ByteArray)) fun y45 => F32_l0 N y45 N ([]) (y45.length : Int) (0 : Int))
theorem ok32 N a0 {r} (h : F32 N a0 = some r) : Con prog 32 [S a0] [.lf (.own Y53 r.1 .dp), .lf (.v .bool r.2)] := by
 refine ctr [.lf (.own Y53 .dp), .lf (.v .bool)] K func32 rfl fun w0 E0 ht => ?_
 unfold F32 at h
 show VW _ _ _ _ _ (retQ _ _ _ _) _
 refine nR K (tn 2) <| sq <| nR K (tn 2) ?_
 refine cnd h ?_ ?_<;>intro h
 ·refine nR K (tn 2) ?_
  cases h; exact VW.ret (rt [none])
 refine VW.skip <| nR K (tn 1) ?_
 refine VW.join (fun s => ∃ x43, s = ⟨[(4, hh 0)], [ar 0 Y53 x43 .dp]⟩ ∧ F32_j0 N x43 = some r) ?_ ?_
 ·refine sq <| VW.region <| nG K 1 (tn 1) ?_
  obtain⟨y45,hy,h⟩:=aS h
  refine clc false [.t .str, .t .str] [] (some 17) K (ok52 N _ _ hy) <| nN K (tn 2) <| VW.block <| lop (fun k s => ∃ x59 x60 x61, s = ⟨[(4, hh 0), (17, hh 1), (18, I x60), (19, I x61)], [ar 0 Y53 x59 .dp, ar 0 .str y45 .dp]⟩ ∧ F32_l0 N y45 k x59 x60 x61 = some r) N [.nilS 4 Y53 .dp, .ren [4, 17, 18, 19] [1, 0]] ⟨[], (y45.length : Int), (0 : Int), rfl, h⟩ ?_
  rintro k74 s ⟨x59, x60, x61, rfl, h⟩
  cases k74 with
  | zero => cases show none = some r from h
  | succ k74 =>
   replace h : F32_l0_b N y45 (F32_l0 N y45 k74) x59 x60 x61 = some r := h
   unfold F32_l0_b at h
   refine nR K (tn 1) <| sq ?_
   refine cnd h ?_ ?_<;>intro h
   ·refine VW.skip <| sq <| VW.block ?_
    obtain⟨g81,h⟩:=gS h
    obtain⟨g82,h⟩:=gS h
    refine nR K (an g81 (an g82 (tn 1))) <| sq <| VW.region <| nG K 1 (tn 1) ?_
    obtain⟨y83,hy,h⟩:=aS h
    refine clc false [.t .str, .t .str] [] (some 25) K (ok53 N _ _ hy) <| nN K (tn 7) <| sq <| VW.region <| nG K 1 (tn 1) ?_
    obtain⟨y84,hy,h⟩:=aS h
    refine clc false [.t .str] [] (some 31) K (ok54 N _ hy) <| nN K (tn 5) <| sq <| VW.region <| nG K 1 (tn 1) ?_
    obtain⟨y85,hy,h⟩:=aS h
    refine clc false [.t .str] [] (some 36) K (ok54 N _ hy) <| nN K (tn 5) <| sq <| sq <| VW.region <| nG K 3 (tn 3) ?_
    refine spC 41 h ?_ ?_<;>intro h
    ·refine nN K (tn 11) ?_
     refine VW.cond (b := true) (by kernel_rfl) (fun _ => ?_) (fun h' => nomatch h')
     refine nR K (tn 2) ?_
     cases h; exact VW.ret (rt [none])
    refine nG K 4 (tn 4) ?_
    refine spC 45 h ?_ ?_<;>intro h
    ·refine nN K (tn 7) ?_
     refine VW.cond (b := true) (by kernel_rfl) (fun _ => ?_) (fun h' => nomatch h')
     refine nR K (tn 2) ?_
     cases h; exact VW.ret (rt [none])
    refine nG K 4 (tn 4) ?_
    refine spC 49 h ?_ ?_<;>intro h
    ·refine nN K (tn 3) ?_
     refine VW.cond (b := true) (by kernel_rfl) (fun _ => ?_) (fun h' => nomatch h')
     refine sR K [2, 3] [] ⟨[(2, .lf (.nil)), (3, B false)], []⟩ (tn 2) ?_
     cases h; exact VW.ret (rt [none])
    refine nN K (tn 3) ?_
    refine cnd h ?_ ?_<;>intro h
    ·refine sR K [2, 3] [] ⟨[(2, .lf (.nil)), (3, B false)], []⟩ (tn 2) ?_
     cases h; exact VW.ret (rt [none])
    refine VW.skip ?_
    obtain⟨g86,h⟩:=gS h
    refine rR K [4, 17, 18, 19] [0, 1] ⟨[(4, hh 0), (17, hh 1), (18, I x60), (19, I x61)], [ar 0 Y53 (x59 ++ ([(y84.1, y85.1)])) .dp, ar 0 .str y45 .dp]⟩ (pu 5 (an g86 (tn 1))) <| nE K (tn 2) ?_
    exact aro [.ren [4, 17, 18, 19] [0, 1]] ⟨(x59 ++ ([(y84.1, y85.1)])), x60, (wr (x61 + (1 : Int))), rfl, h⟩
   refine VW.exit ?_
   exact arv [.ren [4] [0]] ⟨x59, rfl, h⟩
 rintro s ⟨x43, rfl, h⟩
 unfold F32_j0 at h
 refine sq <| nR K (tn 3) ?_
 refine cnd h ?_ ?_<;>intro h
 ·refine nR K (tn 2) ?_
  cases h; exact VW.ret (rt [none])
 refine VW.skip <| nR K (tn 3) ?_
 cases h; exact VW.ret (rt [some 0])
end Go.Proofs.YtnkgeljjjeeaaaaGreatDoor.Vc
namespace Go.Proofs.YtnkgeljjjeeaaaaGreatDoor.Vc
open Go Go.RowKit Go.Proofs.Tryz
set_option linter.unusedVariables false
set_option maxRecDepth 100000
set_option maxHeartbeats 4000000
def F4_j0 (N : Nat) (x109 : Int) (y17 : (List Z53)) : Option (Bool) :=
  some (x109 == (y17.length : Int))
def F4_j1 (N : Nat) (y17 : (List Z53)) (x109 : Int) : Option (Bool) :=
  cond (decide ((y17.length : Int) > (0 : Int))) (gd (InR (0 : Int) y17.length) (gd ((0 : Int).toNat < y17.length) (andO (F33 N (y17.getD ((0 : Int).toNat) (Ty.dflt Y53))) fun y123 => andO (F32 N y123) fun y124 => cond (!y124.2) (some false) (cond ((y124.1.length : Int) != (1 : Int)) (some false) (gd (InR (0 : Int) y124.1.length) (gd ((0 : Int).toNat < y124.1.length) (gd (InR (0 : Int) y17.length) (gd ((0 : Int).toNat < y17.length) (cond (!((((y124.1.getD ((0 : Int).toNat) (Ty.dflt Y53)).1) == ((y17.getD ((0 : Int).toNat) (Ty.dflt Y53)).1)) && (((y124.1.getD ((0 : Int).toNat) (Ty.dflt Y53)).2) == ((y17.getD ((0 : Int).toNat) (Ty.dflt Y53)).2)))) (some false) (F4_j0 N x109 y17)))))))))) (F4_j0 N x109 y17)
def F4_l0_b (N : Nat) (y17 : (List Z53)) (y93 : (List Int)) (nx142 : Int → Int → Option (Bool)) (x136 : Int) (x137 : Int) : Option (Bool) :=
  cond (decide (x137 < (y93.length : Int))) (gd (InR x137 y93.length) (gd (x137.toNat < y93.length) (nx142 (IntKind.i64.wrap (x136 + (y93.getD x137.toNat (Ty.dflt (.int .i64))))) (IntKind.i64.wrap (x137 + (1 : Int)))))) (F4_j1 N y17 x136)
def F4_l0 (N : Nat) (y17 : (List Z53)) (y93 : (List Int)) := loopF (F4_l0_b N y17 y93) (fun _ _ => none)
theorem F4_l0_s N y17 y93 {k} (hk : 0 < k) x136 x137 : F4_l0 N y17 y93 k x136 x137 = F4_l0_b N y17 y93 (F4_l0 N y17 y93 (k - 1)) x136 x137 := by cases k;cases hk;rfl
def F4_j2 (N : Nat) (y17 : (List Z53)) : Option (Bool) :=
  andO (F31 N y17) fun y93 => F4_l0 N y17 y93 N (0 : Int) (0 : Int)
def F4_l1_b (N : Nat) (x15 : (List Z77)) (x16 : (List Z73)) (y17 : (List Z53)) (y18 : (List Z53)) (nx197 : Int → Option (Bool)) (x172 : Int) : Option (Bool) :=
  cond (decide (x172 < (y17.length : Int))) (gd (InR x172 y17.length) (gd (x172.toNat < y17.length) (andO (F29 N x15 x16 (y17.getD x172.toNat (Ty.dflt Y53))) fun y212 => cond (!y212.2) (some false) (gd (InR x172 y17.length) (gd (x172.toNat < y17.length) (gd (InR x172 y18.length) (gd (x172.toNat < y18.length) (cond (!((((y17.getD x172.toNat (Ty.dflt Y53)).1) == ((y18.getD x172.toNat (Ty.dflt Y53)).1)) && (((y17.getD x172.toNat (Ty.dflt Y53)).2) == ((y18.getD x172.toNat (Ty.dflt Y53)).2)))) (some false) (gd (InR x172 y17.length) (gd (x172.toNat < y17.length) (andO (F30 N ((y17.getD x172.toNat (Ty.dflt Y53)).1)) fun y221 => cond (y221.toList == ByteArray.empty.toList) (some false) (nx197 (IntKind.i64.wrap (x172 + (1 : Int))))))))))))))) (F4_j2 N y17)
def F4_l1 (N : Nat) (x15 : (List Z77)) (x16 : (List Z73)) (y17 : (List Z53)) (y18 : (List Z53)) := loopF (F4_l1_b N x15 x16 y17 y18) (fun _ => none)
theorem F4_l1_s N x15 x16 y17 y18 {k} (hk : 0 < k) x172 : F4_l1 N x15 x16 y17 y18 k x172 = F4_l1_b N x15 x16 y17 y18 (F4_l1 N x15 x16 y17 y18 (k - 1)) x172 := by cases k;cases hk;rfl
def F4_j3 (N : Nat) (x15 : (List Z77)) (x16 : (List Z73)) : Option (Bool) :=
  andO (F27 N x15 x16) fun y17 => andO (F28 N x15 x16) fun y18 => cond ((y17.length : Int) != (y18.length : Int)) (some false) (F4_l1 N x15 x16 y17 y18 N (0 : Int))
def F4 (N : Nat) (a0 : (List Int)) : Option (Bool) :=
  andO (F5 N a0) fun y2 => cond y2 (some true) (andO (F19 N a0) fun y3 => andO (F20 N y3.1 y3.2.1 y3.2.2) fun y4 => andO (F21 N y3.1 y3.2.1 y3.2.2) fun y5 => cond (y5.2 != y4.2) (some false) (andO (F22 N y5.1 y4.1) fun y7 => cond (!y7) (some false) (andO (F23 N y3.2.2) fun y8 => andO (F24 N y3.2.2) fun y10 => cond (!(y8.toList == y10.toList)) (some false) (cond (decide ((y3.2.2.length : Int) ≤ (20 : Int))) (andO (F25 N y3.1 y3.2.1) fun y223 => cond y223 (gd (0 ≤ y4.2 ∧ y4.2 ≤ (y3.2.2.length : Int)) (andO (F26 N y3.1 y3.2.1 y5.1 ((y3.2.2.drop 0).take y4.2.toNat)) fun y225 => cond (!y225) (some false) (cond (decide ((y4.2.toNat : Int) < (y3.2.2.length : Int))) (andO (F26 N y3.1 y3.2.1 y5.1 y3.2.2) fun y226 => cond y226 (some false) (F4_j3 N y3.1 y3.2.1)) (F4_j3 N y3.1 y3.2.1)))) (F4_j3 N y3.1 y3.2.1)) (F4_j3 N y3.1 y3.2.1)))))
theorem ok4 N a0 {r} (h : F4 N a0 = some r) : Con prog 4 [Vv (.sl (.int .u8)) a0] [.lf (.v .bool r)] := by
 refine ctr [.lf (.v .bool)] K func4 rfl fun w0 E0 ht => ?_
 unfold F4 at h
 show VW _ _ _ _ _ (retQ _ _ _ _) _
 refine nR K (tn 1) <| sq <| sq <| VW.region <| nG K 1 (tn 1) ?_
 obtain⟨y2,hy,h⟩:=aS h
 refine clc false [.t (.sl (.int .u8))] [] (some 23) K (ok5 N _ hy) <| nN K (tn 0) ?_
 refine cnd h ?_ ?_<;>intro h
 ·refine nR K (tn 1) ?_
  cases h; exact VW.ret (rt [])
 refine VW.skip <| sq <| VW.region <| nG K 1 (tn 1) ?_
 obtain⟨y3,hy,h⟩:=aS h
 refine clc false [.t (.sl (.int .u8))] [] (some 26) K (ok19 N _ hy) <| nN K (tn 7) <| sq <| VW.region <| nG K 3 (tn 3) ?_
 obtain⟨y4,hy,h⟩:=aS h
 refine clc true [.t (.sl Y77), .t (.sl Y73), .t (.sl Y53)] [] (some 34) K (ok20 N _ _ _ hy) <| nN K (tn 5) <| sq <| VW.region <| nG K 3 (tn 3) ?_
 obtain⟨y5,hy,h⟩:=aS h
 refine clc true [.t (.sl Y77), .t (.sl Y73), .t (.sl Y53)] [] (some 41) K (ok21 N _ _ _ hy) <| nN K (tn 5) <| sq <| sq <| VW.region <| nG K 4 (tn 4) ?_
 refine spC 47 h ?_ ?_<;>intro h
 ·refine nN K (tn 5) ?_
  refine VW.cond (b := true) (by kernel_rfl) (fun _ => ?_) (fun h' => nomatch h')
  refine nR K (tn 1) ?_
  cases h; exact VW.ret (rt [])
 refine nG K 2 (tn 2) <| VO.on (j := 3) (want := false) (d := 47) (b := false) rfl rfl rfl (by kernel_rfl) rfl ?_
 obtain⟨y7,hy,h⟩:=aS h
 refine clc true [.t (.sl Y73), .t (.sl Y73)] [] (some 50) K (ok22 N _ _ hy) <| nN K (tn 2) ?_
 refine cnd h ?_ ?_<;>intro h
 ·refine nR K (tn 1) ?_
  cases h; exact VW.ret (rt [])
 refine VW.skip <| sq <| VW.region <| nG K 1 (tn 1) ?_
 obtain⟨y8,hy,h⟩:=aS h
 refine clc true [.t (.sl Y53)] [] (some 54) K (ok23 N _ hy) <| sN K [3, 4, 5, 7, 8, 10] [0, 2] ⟨[(3, Vv (.sl Y77) y3.1), (4, Vv (.sl Y73) y3.2.1), (5, hh 0), (7, I y4.2), (8, hh 1), (10, S y8)], [ar 0 Y53 y3.2.2 .dp, ar 0 Y73 y5.1 .dp]⟩ (tn 1) <| sq <| sq <| VW.region <| nG K 2 (tn 2) ?_
 obtain⟨y10,hy,h⟩:=aS h
 refine clc true [.t (.sl Y53)] [] (some 57) K (ok24 N _ hy) <| nN K (tn 1) ?_
 refine cnd h ?_ ?_<;>intro h
 ·refine nR K (tn 1) ?_
  cases h; exact VW.ret (rt [])
 refine VW.skip ?_
 refine VW.join (fun s => ∃ x15 x16, s = ⟨[(3, Vv (.sl Y77) x15), (4, Vv (.sl Y73) x16)], []⟩ ∧ F4_j3 N x15 x16 = some r) ?_ ?_
 ·refine sq <| VW.region <| nG K 4 (tn 4) ?_
  refine spC 62 h ?_ ?_<;>intro h
  ·refine nG K 2 (tn 2) <| VO.on (j := 3) (want := true) (d := 62) (b := true) rfl rfl rfl (by kernel_rfl) rfl ?_
   obtain⟨y223,hy,h⟩:=aS h
   refine clc false [.t (.sl Y77), .t (.sl Y73)] [] (some 65) K (ok25 N _ _ hy) <| nN K (tn 1) ?_
   refine cnd h ?_ ?_<;>intro h
   ·obtain⟨g224,h⟩:=gS h
    refine nR K (pu 2 (an g224 (tn 1))) <| sq <| VW.region <| nG K 4 (tn 4) ?_
    obtain⟨y225,hy,h⟩:=aS h
    refine clc true [.t (.sl Y77), .t (.sl Y73), .t (.sl Y73), .t (.sl Y53)] [] (some 74) K (ok26 N _ _ _ _ hy) <| nG K 2 (tn 2) ?_
    refine spC 76 h ?_ ?_<;>intro h
    ·refine nN K (tn 13) ?_
     refine VW.cond (b := true) (by kernel_rfl) (fun _ => ?_) (fun h' => nomatch h')
     refine nR K (tn 1) ?_
     cases h; exact VW.ret (rt [])
    refine nG K 6 (tn 6) ?_
    refine spC 82 h ?_ ?_<;>intro h
    ·refine nG K 4 (tn 4) <| VO.on (j := 12) (want := true) (d := 82) (b := true) rfl rfl rfl (by kernel_rfl) rfl ?_
     obtain⟨y226,hy,h⟩:=aS h
     refine clc true [.t (.sl Y77), .t (.sl Y73), .t (.sl Y73), .t (.sl Y53)] [] (some 87) K (ok26 N _ _ _ _ hy) <| nN K (tn 2) ?_
     refine cnd h ?_ ?_<;>intro h
     ·refine nR K (tn 1) ?_
      cases h; exact VW.ret (rt [])
     refine VW.skip ?_
     exact arv [.ren [3, 4] []] ⟨y3.1, y3.2.1, rfl, h⟩
    refine nN K (tn 7) ?_
    refine VW.cond (b := false) (by kernel_rfl) (fun h' => nomatch h') (fun _ => ?_)
    refine VW.skip ?_
    exact arv [.ren [3, 4] []] ⟨y3.1, y3.2.1, rfl, h⟩
   refine VW.skip ?_
   exact arv [.ren [3, 4] []] ⟨y3.1, y3.2.1, rfl, h⟩
  refine nN K (tn 4) ?_
  refine VW.cond (b := false) (by kernel_rfl) (fun h' => nomatch h') (fun _ => ?_)
  refine VW.skip ?_
  exact arv [.ren [3, 4] []] ⟨y3.1, y3.2.1, rfl, h⟩
 rintro s ⟨x15, x16, rfl, h⟩
 unfold F4_j3 at h
 refine sq <| VW.region <| nG K 2 (tn 2) ?_
 obtain⟨y17,hy,h⟩:=aS h
 refine clc false [.t (.sl Y77), .t (.sl Y73)] [] (some 92) K (ok27 N _ _ hy) <| nN K (tn 1) <| sq <| VW.region <| nG K 2 (tn 2) ?_
 obtain⟨y18,hy,h⟩:=aS h
 refine clc false [.t (.sl Y77), .t (.sl Y73)] [] (some 95) K (ok28 N _ _ hy) <| nN K (tn 1) <| sq <| nR K (tn 5) ?_
 refine cnd h ?_ ?_<;>intro h
 ·refine nR K (tn 1) ?_
  cases h; exact VW.ret (rt [])
 refine VW.skip ?_
 refine VW.join (fun s => s = ⟨[(12, hh 0)], [ar 0 Y53 y17 .dp]⟩ ∧ F4_j2 N y17 = some r) ?_ ?_
 ·refine nR K (tn 1) <| VW.block <| lop (fun k s => ∃ x172, s = ⟨[(3, Vv (.sl Y77) x15), (4, Vv (.sl Y73) x16), (12, hh 0), (13, hh 1), (14, I x172)], [ar 0 Y53 y17 .dp, ar 0 Y53 y18 .dp]⟩ ∧ F4_l1 N x15 x16 y17 y18 k x172 = some r) N [.ren [3, 4, 12, 13, 14] [0, 1]] ⟨(0 : Int), rfl, h⟩ ?_
  rintro k197 s ⟨x172, rfl, h⟩
  cases k197 with
  | zero => cases show none = some r from h
  | succ k197 =>
   replace h : F4_l1_b N x15 x16 y17 y18 (F4_l1 N x15 x16 y17 y18 k197) x172 = some r := h
   unfold F4_l1_b at h
   refine sq <| nR K (tn 4) ?_
   refine cnd h ?_ ?_<;>intro h
   ·refine VW.skip <| sq <| VW.block <| sq <| VW.region ?_
    obtain⟨g210,h⟩:=gS h
    obtain⟨g211,h⟩:=gS h
    refine nG K 6 (pu 4 (an g210 (an g211 (tn 0)))) ?_
    obtain⟨y212,hy,h⟩:=aS h
    refine clc false [.t (.sl Y77), .t (.sl Y73), .t Y53] [] (some 114) K (ok29 N _ _ _ hy) <| nN K (tn 5) <| sq ?_
    rcases Bool.eq_false_or_eq_true (!y212.2) with hb213 | hb213
    ·replace h := cond_t h hb213
     refine dr K [(2, .lit true)] [(2, 0)] [] [3, 4, 12, 13, 14, 138] [0, 1] (tn 22) ⟨qB 119 hb213 K trivial, trivial⟩ ?_
     refine VW.cond (b := true) (by kernel_rfl) (fun _ => ?_) (fun h' => nomatch h')
     refine nR K (tn 1) ?_
     cases h; exact VW.ret (rt [])
    replace h := cond_f h hb213
    obtain⟨g214,h⟩:=gS h
    obtain⟨g215,h⟩:=gS h
    obtain⟨g216,h⟩:=gS h
    obtain⟨g217,h⟩:=gS h
    rcases Bool.eq_false_or_eq_true (!((((y17.getD x172.toNat D53).1) == ((y18.getD x172.toNat D53).1)) && (((y17.getD x172.toNat D53).2) == ((y18.getD x172.toNat D53).2)))) with hb218 | hb218
    ·replace h := cond_t h hb218
     refine dr K [(2, .lit false), (13, .lit true)] [(2, 0), (13, 0)] [] [3, 4, 12, 13, 14, 138] [0, 1] (pu 5 (an g214 (an g215 (pu 2 (an g216 (an g217 (tn 11))))))) ⟨qB 119 hb213 K trivial, qB 130 hb218 K trivial, trivial⟩ ?_
     refine VW.cond (b := true) (by kernel_rfl) (fun _ => ?_) (fun h' => nomatch h')
     refine nR K (tn 1) ?_
     cases h; exact VW.ret (rt [])
    replace h := cond_f h hb218
    obtain⟨g219,h⟩:=gS h
    obtain⟨g220,h⟩:=gS h
    obtain⟨y221,hy221,h⟩:=aS h
    refine dr K [(2, .lit false), (13, .lit false), (19, .cl [] (some 136) [.lf (.v .str y221)])] [(2, 0), (13, 0), (19, 0)] [] [3, 4, 12, 13, 14, 138] [0, 1] (pu 5 (an g214 (an g215 (pu 2 (an g216 (an g217 (pu 5 (an g219 (pu 1 (an g220 (tn 3))))))))))) ⟨qB 119 hb213 K trivial, qB 130 hb218 K trivial, qC false [.t (.int .i64)] [] [] (some 136) K (ok30 N _ hy221), trivial⟩ ?_
    refine cnd h ?_ ?_<;>intro h
    ·refine nR K (tn 1) ?_
     cases h; exact VW.ret (rt [])
    refine VW.skip <| nE K (tn 3) ?_
    exact aro [.ren [3, 4, 12, 13, 14] [0, 1]] ⟨(wr (x172 + (1 : Int))), rfl, h⟩
   refine VW.exit ?_
   exact arv [.ren [12] [0]] ⟨rfl, h⟩
 rintro s ⟨rfl, h⟩
 unfold F4_j2 at h
 refine sq <| VW.region <| nG K 1 (tn 1) ?_
 obtain⟨y93,hy,h⟩:=aS h
 refine clc true [.t (.sl Y53)] [] (some 140) K (ok31 N _ hy) <| nN K (tn 1) <| nR K (tn 1) ?_
 refine VW.join (fun s => ∃ x109, s = ⟨[(12, hh 0), (18, I x109)], [ar 0 Y53 y17 .dp]⟩ ∧ F4_j1 N y17 x109 = some r) ?_ ?_
 ·refine nR K (tn 1) <| VW.block <| lop (fun k s => ∃ x136 x137, s = ⟨[(12, hh 0), (17, hh 1), (18, I x136), (19, I x137)], [ar 0 Y53 y17 .dp, ar 0 (.int .i64) y93 .dp]⟩ ∧ F4_l0 N y17 y93 k x136 x137 = some r) N [.ren [12, 17, 18, 19] [0, 1]] ⟨(0 : Int), (0 : Int), rfl, h⟩ ?_
  rintro k142 s ⟨x136, x137, rfl, h⟩
  cases k142 with
  | zero => cases show none = some r from h
  | succ k142 =>
   replace h : F4_l0_b N y17 y93 (F4_l0 N y17 y93 k142) x136 x137 = some r := h
   unfold F4_l0_b at h
   refine sq <| nR K (tn 4) ?_
   refine cnd h ?_ ?_<;>intro h
   ·refine VW.skip <| sq <| VW.block ?_
    obtain⟨g145,h⟩:=gS h
    obtain⟨g146,h⟩:=gS h
    refine nE K (pu 3 (an g145 (an g146 (tn 2)))) <| nE K (tn 3) ?_
    exact aro [.ren [12, 17, 18, 19] [0, 1]] ⟨(wr (x136 + (y93.getD x137.toNat (Ty.dflt (.int .i64))))), (wr (x137 + (1 : Int))), rfl, h⟩
   refine VW.exit ?_
   exact arv [.ren [12, 18] [0]] ⟨x136, rfl, h⟩
 rintro s ⟨x109, rfl, h⟩
 unfold F4_j1 at h
 refine VW.join (fun s => s = ⟨[(12, hh 0), (18, I x109)], [ar 0 Y53 y17 .dp]⟩ ∧ F4_j0 N x109 y17 = some r) ?_ ?_
 ·refine nR K (tn 3) ?_
  refine cnd h ?_ ?_<;>intro h
  ·refine sq <| VW.region ?_
   obtain⟨g121,h⟩:=gS h
   obtain⟨g122,h⟩:=gS h
   refine nG K 3 (pu 1 (an g121 (an g122 (tn 0)))) ?_
   obtain⟨y123,hy,h⟩:=aS h
   refine clc false [.t Y53] [] (some 160) K (ok33 N _ hy) ?_
   obtain⟨y124,hy,h⟩:=aS h
   refine clc false [.t .str] [] (some 161) K (ok32 N _ hy) <| nN K (tn 5) <| sq ?_
   rcases Bool.eq_false_or_eq_true (!y124.2) with hb125 | hb125
   ·replace h := cond_t h hb125
    refine dr K [(2, .lit true)] [(2, 0)] [] [12, 18, 179] [0] (tn 16) ⟨qB 166 hb125 K trivial, trivial⟩ ?_
    refine VW.cond (b := true) (by kernel_rfl) (fun _ => ?_) (fun h' => nomatch h')
    refine nR K (tn 1) ?_
    cases h; exact VW.ret (rt [])
   replace h := cond_f h hb125
   rcases Bool.eq_false_or_eq_true ((y124.1.length : Int) != (1 : Int)) with hb126 | hb126
   ·replace h := cond_t h hb126
    refine dr K [(2, .lit false), (7, .lit true)] [(2, 0), (7, 0)] [] [12, 18, 179] [0] (tn 16) ⟨qB 166 hb125 K trivial, qB 171 hb126 K trivial, trivial⟩ ?_
    refine VW.cond (b := true) (by kernel_rfl) (fun _ => ?_) (fun h' => nomatch h')
    refine nR K (tn 1) ?_
    cases h; exact VW.ret (rt [])
   replace h := cond_f h hb126
   obtain⟨g127,h⟩:=gS h
   obtain⟨g128,h⟩:=gS h
   obtain⟨g129,h⟩:=gS h
   obtain⟨g130,h⟩:=gS h
   refine dr K [(2, .lit false), (7, .lit false)] [(2, 0), (7, 0)] [] [12, 18, 179] [0] (pu 9 (an g127 (an g128 (pu 1 (an g129 (an g130 (tn 2))))))) ⟨qB 166 hb125 K trivial, qB 171 hb126 K trivial, trivial⟩ ?_
   refine cnd h ?_ ?_<;>intro h
   ·refine nR K (tn 1) ?_
    cases h; exact VW.ret (rt [])
   refine VW.skip ?_
   exact arv [.ren [12, 18] [0]] ⟨rfl, h⟩
  refine VW.skip ?_
  exact arv [.ren [12, 18] [0]] ⟨rfl, h⟩
 rintro s ⟨rfl, h⟩
 unfold F4_j0 at h
 refine nR K (tn 5) ?_
 cases h; exact VW.ret (rt [])
end Go.Proofs.YtnkgeljjjeeaaaaGreatDoor.Vc
