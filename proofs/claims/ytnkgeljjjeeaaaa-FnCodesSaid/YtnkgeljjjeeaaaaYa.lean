/- What functions of the program compute, and that they do. -/
import Derived.Test.YtnkgeljjjeeaaaaXc
import Derived.Test.YtnkgeljjjeeaaaaProg
namespace Go.Proofs.Ytnkgeljjjeeaaaa.Vc
open Go Go.RowKit Go.Proofs.Try
set_option linter.unusedVariables false
set_option maxRecDepth 100000
set_option maxHeartbeats 4000000
abbrev Y7 : Ty := .pair (.int .i64) (.pair (.int .i64) (.pair .bool (.int .u8)))
abbrev Y13 : Ty := .pair .str (.int .u64)
abbrev Y44 : Ty := .pair (.int .i64) (.pair .str (.pair (.int .i64) (.pair (.int .i64) (.pair (.int .i64) (.pair .bool (.sl (.int .i64)))))))
abbrev Z44 := (Int × (ByteArray × (Int × (Int × (Int × (Bool × (List Int)))))))
abbrev Y58 : Ty := .pair (.sl (.int .u8)) (.pair (.int .i64) (.int .i64))
abbrev Z58 := ((List Int) × (Int × Int))
abbrev Y79 : Ty := .pair (.sl (.int .u8)) (.pair (.int .i64) .bool)
abbrev Z79 := ((List Int) × (Int × Bool))
abbrev D44 : (Y44).den := Ty.dflt Y44
def TL : List (Nat × TI) := [(2, { ty := (.int .i64) }),
  (3, { ty := (.int .i64) }),
  (4, { ty := .bool }),
  (5, { ty := (.int .u8) }),
  (6, { ty := (.int .u8) }),
  (7, { ty := Y7, offs := [0, 1, 2, 3], szs := [1, 1, 1, 1] }),
  (8, { ty := Y7, offs := [0, 1, 2, 3], szs := [1, 1, 1, 1] }),
  (9, { ty := .str }),
  (10, { ty := .str }),
  (11, { ty := .str }),
  (12, { ty := (.int .u64) }),
  (13, { ty := Y13, offs := [0, 1], szs := [1, 1] }),
  (14, { ty := Y13, offs := [0, 1], szs := [1, 1] }),
  (21, { ty := (.int .i32) }),
  (22, { ty := (.sl (.int .u8)), elem := 5 }),
  (24, { ty := (.sl Y44), elem := 45 }),
  (43, { ty := (.sl (.int .i64)), elem := 3 }),
  (44, { ty := Y44, offs := [0, 1, 2, 3, 4, 5, 6], szs := [1, 1, 1, 1, 1, 1, 1] }),
  (45, { ty := Y44, offs := [0, 1, 2, 3, 4, 5, 6], szs := [1, 1, 1, 1, 1, 1, 1] }),
  (58, { ty := Y58, offs := [0, 1, 2], szs := [1, 1, 1] }),
  (59, { ty := Y58, offs := [0, 1, 2], szs := [1, 1, 1] }),
  (78, { ty := (.int .u64) }),
  (79, { ty := Y79, offs := [0, 1, 2], szs := [1, 1, 1] }),
  (80, { ty := Y79, offs := [0, 1, 2], szs := [1, 1, 1] }),
  (90, { ty := (.sl (.sl (.int .u8))), elem := 22 }),
  (92, { ty := (.sl .str), elem := 9 }),
  (94, { ty := (.sl (.sl Y44)), elem := 24 }),
  (105, { ty := (.int .u32) }),
  (106, { ty := (.int .u8) }),
  (107, { ty := (.int .u8) }),
  (110, { ty := (.int .i32) }),
  (111, { ty := (.int .i32) })]
abbrev T : Tab := lookT TL
theorem T_ok : TabOk Go.Proofs.Try.prog T := tabOk_of TL (by kernel_rfl)
theorem K : TabOk Go.Proofs.Try.prog T := T_ok
theorem T_rec : RecOk Go.Proofs.Try.prog T := recOk_of TL (by kernel_rfl)
def F4 (N : Nat) (a0 : (List Int)) : Option (Bool) :=
  some (decide ((a0.length : Int) > (1048576 : Int)))
theorem ok4 N a0 {r} (h : F4 N a0 = some r) : Con prog 4 [Vv (.sl (.int .u8)) a0] [.lf (.v .bool r)] := by
 refine ctr [.lf (.v .bool)] K func4 rfl fun w0 E0 ht => ?_
 unfold F4 at h
 show VW _ _ _ _ _ (retQ _ _ _ _) _
 refine nR K (tn 1) <| nR K (tn 4) ?_
 cases h; exact VW.ret (rt [])
def F88_j0 (N : Nat) (x2 : Int) (x3 : (List Int)) (x4 : Int) (x5 : Int) : Option (Z58 × Int) :=
  some ((x3, (x4, x5)), x2)
def F88 (N : Nat) (a0 : Z58) : Option (Z58 × Int) :=
  cond (decide (a0.2.1 < (a0.1.length : Int))) (gd (InR a0.2.1 a0.1.length) (F88_j0 N (IntKind.i64.wrap (((BitVec.ofInt IntKind.i64.bits (IntKind.i64.wrap ((IntKind.i64.wrap (((BitVec.ofInt IntKind.i64.bits (IntKind.i64.wrap (((BitVec.ofInt IntKind.i64.bits (Int.fdiv (IntKind.i64.wrap ((IntKind.i64.wrap (a0.2.2 * (6364136223846793005 : Int))) + (1442695040888963407 : Int))) (2 ^ (min (33 : Int).toNat IntKind.i64.bits))) ^^^ BitVec.ofInt IntKind.i64.bits (Int.fdiv (IntKind.i64.wrap ((IntKind.i64.wrap (a0.2.2 * (6364136223846793005 : Int))) + (1442695040888963407 : Int))) (2 ^ (min (45 : Int).toNat IntKind.i64.bits)))).toNat : Nat) : Int)) &&& BitVec.ofInt IntKind.i64.bits (255 : Int)).toNat : Nat) : Int)) + (IntKind.i64.wrap (a0.1.getD a0.2.1.toNat (Ty.dflt (.int .u8)))))) &&& BitVec.ofInt IntKind.i64.bits (255 : Int)).toNat : Nat) : Int)) a0.1 (IntKind.i64.wrap (a0.2.1 + (1 : Int))) (IntKind.i64.wrap ((IntKind.i64.wrap (a0.2.2 * (6364136223846793005 : Int))) + (1442695040888963407 : Int))))) (F88_j0 N (IntKind.i64.wrap (((BitVec.ofInt IntKind.i64.bits (IntKind.i64.wrap (((BitVec.ofInt IntKind.i64.bits (Int.fdiv (IntKind.i64.wrap ((IntKind.i64.wrap (a0.2.2 * (6364136223846793005 : Int))) + (1442695040888963407 : Int))) (2 ^ (min (33 : Int).toNat IntKind.i64.bits))) ^^^ BitVec.ofInt IntKind.i64.bits (Int.fdiv (IntKind.i64.wrap ((IntKind.i64.wrap (a0.2.2 * (6364136223846793005 : Int))) + (1442695040888963407 : Int))) (2 ^ (min (45 : Int).toNat IntKind.i64.bits)))).toNat : Nat) : Int)) &&& BitVec.ofInt IntKind.i64.bits (255 : Int)).toNat : Nat) : Int)) a0.1 a0.2.1 (IntKind.i64.wrap ((IntKind.i64.wrap (a0.2.2 * (6364136223846793005 : Int))) + (1442695040888963407 : Int))))
theorem ok88 N a0 {r} (h : F88 N a0 = some r) : ConM prog 88 [bx (lv Y58 a0) 59] [.lf (.ptr 0 0 0 0)] [.lf (.v (.int .i64) r.2)] [bx (lv Y58 r.1) 59] := by
 refine ⟨enters_of func88 rfl (by decide), HM.intro [.lf (.v (.int .i64))] K func88 rfl (Nat.le_of_ble_eq_true rfl) (Nat.le_of_ble_eq_true rfl) fun w0 E0 ht => ?_⟩
 unfold F88 at h
 show VW _ _ _ _ _ (retM _ _ _ _ _) _
 refine nR K (tn 1) <| nR K (tn 10) <| sq <| dr K [] [] [] [0, 3, 65536] [0] (pu 4 (an (show (0 ≤ (33 : Int)) from by decide) (pu 4 (an (show (0 ≤ (45 : Int)) from by decide) (tn 3))))) trivial ?_
 refine VW.join (fun s => ∃ x2 x3 x4 x5, s = ⟨[(3, I x2), (65536, .lf (.ptr 0 0 0 0))], [bx [.v (.sl (.int .u8)) x3, zi x4, zi x5] 59]⟩ ∧ F88_j0 N x2 x3 x4 x5 = some r) ?_ ?_
 ·refine sq <| dr K [] [] [] [0, 3, 34, 65536] [0] (tn 10) trivial ?_
  refine cnd h ?_ ?_<;>intro h
  ·refine sq ?_
   obtain⟨g7,h⟩:=gS h
   refine dr K [] [] [] [0, 3, 65536] [0] (pu 9 (an g7 (tn 5))) trivial <| nE K (tn 9) ?_
   exact arv [.ren [3, 65536] [0]] ⟨(wr (((BitVec.ofInt IntKind.i64.bits (wr ((wr (((BitVec.ofInt IntKind.i64.bits (wr (((BitVec.ofInt IntKind.i64.bits (Int.fdiv (wr ((wr (a0.2.2 * (6364136223846793005 : Int))) + (1442695040888963407 : Int))) (2 ^ (min (33 : Int).toNat IntKind.i64.bits))) ^^^ BitVec.ofInt IntKind.i64.bits (Int.fdiv (wr ((wr (a0.2.2 * (6364136223846793005 : Int))) + (1442695040888963407 : Int))) (2 ^ (min (45 : Int).toNat IntKind.i64.bits)))).toNat : Nat) : Int)) &&& BitVec.ofInt IntKind.i64.bits (255 : Int)).toNat : Nat) : Int)) + (wr (a0.1.getD a0.2.1.toNat (Ty.dflt (.int .u8)))))) &&& BitVec.ofInt IntKind.i64.bits (255 : Int)).toNat : Nat) : Int)), a0.1, (wr (a0.2.1 + (1 : Int))), (wr ((wr (a0.2.2 * (6364136223846793005 : Int))) + (1442695040888963407 : Int))), rfl, h⟩
  refine VW.skip ?_
  exact arv [.ren [3, 65536] [0]] ⟨(wr (((BitVec.ofInt IntKind.i64.bits (wr (((BitVec.ofInt IntKind.i64.bits (Int.fdiv (wr ((wr (a0.2.2 * (6364136223846793005 : Int))) + (1442695040888963407 : Int))) (2 ^ (min (33 : Int).toNat IntKind.i64.bits))) ^^^ BitVec.ofInt IntKind.i64.bits (Int.fdiv (wr ((wr (a0.2.2 * (6364136223846793005 : Int))) + (1442695040888963407 : Int))) (2 ^ (min (45 : Int).toNat IntKind.i64.bits)))).toNat : Nat) : Int)) &&& BitVec.ofInt IntKind.i64.bits (255 : Int)).toNat : Nat) : Int)), a0.1, a0.2.1, (wr ((wr (a0.2.2 * (6364136223846793005 : Int))) + (1442695040888963407 : Int))), rfl, h⟩
 rintro s ⟨x2, x3, x4, x5, rfl, h⟩
 unfold F88_j0 at h
 refine nR K (tn 2) ?_
 replace h := Option.some.inj h
 subst h
 refine VW.ghl [.ren [2, 65536] [0]] (VW.ret ?_)
 exact ⟨[], by kernel_rfl, by kernel_rfl, by kernel_rfl⟩
def F69 (N : Nat) (a0 : Z58) (a1 : Int) : Option (Z58 × Int) :=
  cond (decide (a1 ≤ (0 : Int))) (some (a0, (0 : Int))) (cond (decide (a1 ≤ (256 : Int))) (andO (F88 N a0) fun y3 => gd (a1 ≠ 0) (some (y3.1, (Int.tmod y3.2 a1)))) (andO (F88 N a0) fun y5 => andO (F88 N y5.1) fun y6 => andO (F88 N y6.1) fun y7 => gd (a1 ≠ 0) (some (y7.1, (Int.tmod (IntKind.i64.wrap ((IntKind.i64.wrap ((IntKind.i64.wrap (y5.2 * (65536 : Int))) + (IntKind.i64.wrap (y6.2 * (256 : Int))))) + y7.2)) a1)))))
theorem ok69 N a0 a1 {r} (h : F69 N a0 a1 = some r) : ConM prog 69 [bx (lv Y58 a0) 59] [.lf (.ptr 0 0 0 0), I a1] [.lf (.v (.int .i64) r.2)] [bx (lv Y58 r.1) 59] := by
 refine ⟨enters_of func69 rfl (by decide), HM.intro [.lf (.v (.int .i64))] K func69 rfl (Nat.le_of_ble_eq_true rfl) (Nat.le_of_ble_eq_true rfl) fun w0 E0 ht => ?_⟩
 unfold F69 at h
 show VW _ _ _ _ _ (retM _ _ _ _ _) _
 refine nR K (tn 1) <| sq <| nR K (tn 2) ?_
 refine cnd h ?_ ?_<;>intro h
 ·refine nR K (tn 1) ?_
  replace h := Option.some.inj h
  subst h
  refine VW.ghl [.ren [4, 65536] [0]] (VW.ret ?_)
  exact ⟨[], by kernel_rfl, by kernel_rfl, by kernel_rfl⟩
 refine VW.skip <| sq <| nR K (tn 2) ?_
 refine cnd h ?_ ?_<;>intro h
 ·refine sq <| VW.region <| nG K 1 (tn 1) ?_
  obtain⟨y3,hy,h⟩:=aS h
  refine VO.callM [0] [.r] (d := some 13) (by kernel_rfl) (by kernel_rfl) (ok88 N _ hy) (by kernel_rfl) ?_
  obtain⟨g4,h⟩:=gS h
  refine nN K (pu 1 (an g4 (tn 1))) ?_
  replace h := Option.some.inj h
  subst h
  refine VW.ghl [.ren [4, 65536] [0]] (VW.ret ?_)
  exact ⟨[], by kernel_rfl, by kernel_rfl, by kernel_rfl⟩
 refine VW.skip <| sq <| VW.region <| nG K 1 (tn 1) ?_
 obtain⟨y5,hy,h⟩:=aS h
 refine VO.callM [0] [.r] (d := some 17) (by kernel_rfl) (by kernel_rfl) (ok88 N _ hy) (by kernel_rfl) <| nN K (tn 1) <| sq <| VW.region <| nG K 1 (tn 1) ?_
 obtain⟨y6,hy,h⟩:=aS h
 refine VO.callM [0] [.r] (d := some 19) (by kernel_rfl) (by kernel_rfl) (ok88 N _ hy) (by kernel_rfl) <| nN K (tn 1) <| sq <| VW.region <| nG K 1 (tn 1) ?_
 obtain⟨y7,hy,h⟩:=aS h
 refine VO.callM [0] [.r] (d := some 21) (by kernel_rfl) (by kernel_rfl) (ok88 N _ hy) (by kernel_rfl) <| nN K (tn 1) ?_
 obtain⟨g8,h⟩:=gS h
 refine nR K (pu 8 (an g8 (tn 1))) ?_
 replace h := Option.some.inj h
 subst h
 refine VW.ghl [.ren [4, 65536] [0]] (VW.ret ?_)
 exact ⟨[], by kernel_rfl, by kernel_rfl, by kernel_rfl⟩
def F36 (N : Nat) (a0 : Z58) (a1 : Int) : Option (Z58 × Bool) :=
  andO (F69 N a0 a1) fun y1 => some (y1.1, (y1.2 == (0 : Int)))
theorem ok36 N a0 a1 {r} (h : F36 N a0 a1 = some r) : ConM prog 36 [bx (lv Y58 a0) 59] [.lf (.ptr 0 0 0 0), I a1] [.lf (.v .bool r.2)] [bx (lv Y58 r.1) 59] := by
 refine ⟨enters_of func36 rfl (by decide), HM.intro [.lf (.v .bool)] K func36 rfl (Nat.le_of_ble_eq_true rfl) (Nat.le_of_ble_eq_true rfl) fun w0 E0 ht => ?_⟩
 unfold F36 at h
 show VW _ _ _ _ _ (retM _ _ _ _ _) _
 refine nR K (tn 1) <| sq <| VW.region <| nG K 2 (tn 2) ?_
 obtain⟨y1,hy,h⟩:=aS h
 refine VO.callM [0] [.r, .t (.int .i64)] (d := some 7) (by kernel_rfl) (by kernel_rfl) (ok69 N _ _ hy) (by kernel_rfl) <| nN K (tn 2) ?_
 replace h := Option.some.inj h
 subst h
 refine VW.ghl [.ren [4, 65536] [0]] (VW.ret ?_)
 exact ⟨[], by kernel_rfl, by kernel_rfl, by kernel_rfl⟩
def F76 (N : Nat) (a0 : Z58) (a1 : (List Int)) : Option (Z58 × Int) :=
  andO (F69 N a0 (a1.length : Int)) fun y1 => gd (InR y1.2 a1.length) (some (y1.1, (a1.getD y1.2.toNat (Ty.dflt (.int .i64)))))
theorem ok76 N a0 a1 {r} (h : F76 N a0 a1 = some r) : ConM prog 76 [bx (lv Y58 a0) 59] [.lf (.ptr 0 0 0 0), Vv (.sl (.int .i64)) a1] [.lf (.v (.int .i64) r.2)] [bx (lv Y58 r.1) 59] := by
 refine ⟨enters_of func76 rfl (by decide), HM.intro [.lf (.v (.int .i64))] K func76 rfl (Nat.le_of_ble_eq_true rfl) (Nat.le_of_ble_eq_true rfl) fun w0 E0 ht => ?_⟩
 unfold F76 at h
 show VW _ _ _ _ _ (retM _ _ _ _ _) _
 refine nR K (tn 1) <| sq <| VW.region <| nG K 4 (tn 4) ?_
 obtain⟨y1,hy,h⟩:=aS h
 refine VO.callM [0] [.r, .t (.int .i64)] (d := some 9) (by kernel_rfl) (by kernel_rfl) (ok69 N _ _ hy) (by kernel_rfl) ?_
 obtain⟨g2,h⟩:=gS h
 refine nN K (an g2 (tn 2)) ?_
 replace h := Option.some.inj h
 subst h
 refine VW.ghl [.ren [4, 65536] [0]] (VW.ret ?_)
 exact ⟨[], by kernel_rfl, by kernel_rfl, by kernel_rfl⟩
def F92_j0 (N : Nat) (x16 : (List Int)) : Option ((List Int)) :=
  some x16
def F92_l0_b (N : Nat) (a0 : (List Int)) (nx28 : (List Int) → Int → Option ((List Int))) (x22 : (List Int)) (x23 : Int) : Option ((List Int)) :=
  cond (decide (x23 < (a0.length : Int))) (gd (InR x23 a0.length) (gd (x22.length + ([(a0.getD x23.toNat (Ty.dflt (.int .i64)))]).length ≤ lim (.int .i64)) (nx28 (x22 ++ ([(a0.getD x23.toNat (Ty.dflt (.int .i64)))])) (IntKind.i64.wrap (x23 + (1 : Int)))))) (F92_j0 N x22)
def F92_l0 (N : Nat) (a0 : (List Int)) := loopF (F92_l0_b N a0) (fun _ _ => none)
theorem F92_l0_s N a0 {k} (hk : 0 < k) x22 x23 : F92_l0 N a0 k x22 x23 = F92_l0_b N a0 (F92_l0 N a0 (k - 1)) x22 x23 := by cases k;cases hk;rfl
def F92 (N : Nat) (a0 : (List Int)) : Option ((List Int)) :=
  F92_l0 N a0 N ([]) (0 : Int)
theorem ok92 N a0 {r} (h : F92 N a0 = some r) : Con prog 92 [Vv (.sl (.int .i64)) a0] [.lf (.own (.int .i64) r .dp)] := by
 refine ctr [.lf (.own (.int .i64) .dp)] K func92 rfl fun w0 E0 ht => ?_
 unfold F92 at h
 show VW _ _ _ _ _ (retQ _ _ _ _) _
 refine nR K (tn 1) <| nR K (tn 2) ?_
 refine VW.join (fun s => ∃ x16, s = ⟨[(3, hh 0)], [ar 0 (.int .i64) x16 .dp]⟩ ∧ F92_j0 N x16 = some r) ?_ ?_
 ·refine nR K (tn 1) <| VW.block <| lop (fun k s => ∃ x22 x23, s = ⟨[(0, Vv (.sl (.int .i64)) a0), (3, hh 0), (4, I x23)], [ar 0 (.int .i64) x22 .dp]⟩ ∧ F92_l0 N a0 k x22 x23 = some r) N [.nilS 3 (.int .i64) .dp, .ren [0, 3, 4] [0]] ⟨[], (0 : Int), rfl, h⟩ ?_
  rintro k28 s ⟨x22, x23, rfl, h⟩
  cases k28 with
  | zero => cases show none = some r from h
  | succ k28 =>
   replace h : F92_l0_b N a0 (F92_l0 N a0 k28) x22 x23 = some r := h
   unfold F92_l0_b at h
   refine sq <| nR K (tn 4) ?_
   refine cnd h ?_ ?_<;>intro h
   ·refine VW.skip <| sq <| VW.block ?_
    obtain⟨g31,h⟩:=gS h
    obtain⟨g32,h⟩:=gS h
    refine nE K (pu 3 (an g31 (pu 2 (an g32 (tn 1))))) <| nE K (tn 3) ?_
    exact aro [.ren [0, 3, 4] [0]] ⟨(x22 ++ ([(a0.getD x23.toNat (Ty.dflt (.int .i64)))])), (wr (x23 + (1 : Int))), rfl, h⟩
   refine VW.exit ?_
   exact arv [.ren [3] [0]] ⟨x22, rfl, h⟩
 rintro s ⟨x16, rfl, h⟩
 unfold F92_j0 at h
 refine nR K (tn 2) ?_
 cases h; exact VW.ret (rt [some 0])
def F91_j0 (N : Nat) (x100 : (List Z44)) : Option ((List Z44)) :=
  some x100
def F91_j1 (N : Nat) (nx168 : (List Z44) → Int → Option ((List Z44))) (x134 : (List Z44)) (x135 : Int) (x189 : Int) (x190 : ByteArray) (x191 : Int) (x192 : Int) (x193 : Int) (x194 : Bool) (x195 : (List Int)) : Option ((List Z44)) :=
  gd (x134.length + ([(x189, (x190, (x191, (x192, (x193, (x194, x195))))))]).length ≤ lim Y44) (nx168 (x134 ++ ([(x189, (x190, (x191, (x192, (x193, (x194, x195))))))])) (IntKind.i64.wrap (x135 + (1 : Int))))
def F91_l0_b (N : Nat) (a0 : (List Z44)) (nx168 : (List Z44) → Int → Option ((List Z44))) (x134 : (List Z44)) (x135 : Int) : Option ((List Z44)) :=
  cond (decide (x135 < (a0.length : Int))) (gd (InR x135 a0.length) (gd (InR x135 a0.length) (cond (decide ((((a0.getD x135.toNat (Ty.dflt Y44)).2.2.2.2.2.2).length : Int) > (0 : Int))) (gd (InR x135 a0.length) (andO (F92 N ((a0.getD x135.toNat (Ty.dflt Y44)).2.2.2.2.2.2)) fun y200 => F91_j1 N nx168 x134 x135 ((a0.getD x135.toNat (Ty.dflt Y44)).1) ((a0.getD x135.toNat (Ty.dflt Y44)).2.1) ((a0.getD x135.toNat (Ty.dflt Y44)).2.2.1) ((a0.getD x135.toNat (Ty.dflt Y44)).2.2.2.1) ((a0.getD x135.toNat (Ty.dflt Y44)).2.2.2.2.1) ((a0.getD x135.toNat (Ty.dflt Y44)).2.2.2.2.2.1) y200)) (F91_j1 N nx168 x134 x135 ((a0.getD x135.toNat (Ty.dflt Y44)).1) ((a0.getD x135.toNat (Ty.dflt Y44)).2.1) ((a0.getD x135.toNat (Ty.dflt Y44)).2.2.1) ((a0.getD x135.toNat (Ty.dflt Y44)).2.2.2.1) ((a0.getD x135.toNat (Ty.dflt Y44)).2.2.2.2.1) ((a0.getD x135.toNat (Ty.dflt Y44)).2.2.2.2.2.1) ([]))))) (F91_j0 N x134)
def F91_l0 (N : Nat) (a0 : (List Z44)) := loopF (F91_l0_b N a0) (fun _ _ => none)
theorem F91_l0_s N a0 {k} (hk : 0 < k) x134 x135 : F91_l0 N a0 k x134 x135 = F91_l0_b N a0 (F91_l0 N a0 (k - 1)) x134 x135 := by cases k;cases hk;rfl
def F91 (N : Nat) (a0 : (List Z44)) : Option ((List Z44)) :=
  F91_l0 N a0 N ([]) (0 : Int)
theorem ok91 N a0 {r} (h : F91 N a0 = some r) : Con prog 91 [Vv (.sl Y44) a0] [.lf (.own Y44 r .dp)] := by
 refine ctr [.lf (.own Y44 .dp)] K func91 rfl fun w0 E0 ht => ?_
 unfold F91 at h
 show VW _ _ _ _ _ (retQ _ _ _ _) _
 refine nR K (tn 1) <| nR K (tn 2) ?_
 refine VW.join (fun s => ∃ x100, s = ⟨[(3, hh 0)], [ar 0 Y44 x100 .dp]⟩ ∧ F91_j0 N x100 = some r) ?_ ?_
 ·refine nR K (tn 1) <| VW.block <| lop (fun k s => ∃ x134 x135, s = ⟨[(0, Vv (.sl Y44) a0), (3, hh 0), (4, I x135)], [ar 0 Y44 x134 .dp]⟩ ∧ F91_l0 N a0 k x134 x135 = some r) N [.nilS 3 Y44 .dp, .ren [0, 3, 4] [0]] ⟨[], (0 : Int), rfl, h⟩ ?_
  rintro k168 s ⟨x134, x135, rfl, h⟩
  cases k168 with
  | zero => cases show none = some r from h
  | succ k168 =>
   replace h : F91_l0_b N a0 (F91_l0 N a0 k168) x134 x135 = some r := h
   unfold F91_l0_b at h
   refine sq <| nR K (tn 4) ?_
   refine cnd h ?_ ?_<;>intro h
   ·refine VW.skip <| sq <| VW.block ?_
    obtain⟨g185,h⟩:=gS h
    refine nR K (pu 2 (an g185 (tn 3))) <| nR K (tn 2) ?_
    refine VW.join (fun s => ∃ x189 x190 x191 x192 x193 x194 x195, s = ⟨[(0, Vv (.sl Y44) a0), (3, hh 0), (4, I x135), (5, .lf (.ptr 1 0 0 0))], [ar 0 Y44 x134 .dp, bx [zi x189, zs x190, zi x191, zi x192, zi x193, zb x194, .hd 2 0 none] 45, ar 0 (.int .i64) x195 .dp]⟩ ∧ F91_j1 N (F91_l0 N a0 k168) x134 x135 x189 x190 x191 x192 x193 x194 x195 = some r) ?_ ?_
    ·obtain⟨g198,h⟩:=gS h
     refine nR K (pu 2 (an g198 (tn 4))) ?_
     refine cnd h ?_ ?_<;>intro h
     ·refine VW.region ?_
      obtain⟨g199,h⟩:=gS h
      refine nG K 5 (pu 2 (an g199 (tn 2))) ?_
      obtain⟨y200,hy,h⟩:=aS h
      refine clc false [.t (.sl (.int .i64))] [] (some 30) K (ok92 N _ hy) <| nN K (tn 2) ?_
      exact arv [.ren [0, 3, 4, 5] [0, 1, 2]] ⟨(a0.getD x135.toNat D44).1, (a0.getD x135.toNat D44).2.1, (a0.getD x135.toNat D44).2.2.1, (a0.getD x135.toNat D44).2.2.2.1, (a0.getD x135.toNat D44).2.2.2.2.1, (a0.getD x135.toNat D44).2.2.2.2.2.1, y200, rfl, h⟩
     refine VW.skip ?_
     exact arv [.nil 1 6 (.int .i64) .dp, .ren [0, 3, 4, 5] [0, 1, 2]] ⟨(a0.getD x135.toNat D44).1, (a0.getD x135.toNat D44).2.1, (a0.getD x135.toNat D44).2.2.1, (a0.getD x135.toNat D44).2.2.2.1, (a0.getD x135.toNat D44).2.2.2.2.1, (a0.getD x135.toNat D44).2.2.2.2.2.1, [], rfl, h⟩
    rintro s ⟨x189, x190, x191, x192, x193, x194, x195, rfl, h⟩
    unfold F91_j1 at h
    refine VW.region <| nG K 2 (tn 2) <| VO.litA (d := 34) (v := hh 3) (H' := [ar 0 Y44 x134 .dp, bx [zi x189, zs x190, zi x191, zi x192, zi x193, zb x194, .hd 2 0 none] 45, none, ar 0 Y44 ([(x189, (x190, (x191, (x192, (x193, (x194, x195))))))]) .dp]) K (by kernel_rfl) ?_
    obtain⟨g196,h⟩:=gS h
    refine VO.appM (d := 35) (φ := x134.length + ([(x189, (x190, (x191, (x192, (x193, (x194, x195))))))]).length ≤ lim Y44) (v := .lf (.hd 0 1 none)) (H' := [ar 1 Y44 (x134 ++ ([(x189, (x190, (x191, (x192, (x193, (x194, x195))))))])) .dp, bx [zi x189, zs x190, zi x191, zi x192, zi x193, zb x194, .hd 2 0 none] 45, none, none]) K (by kernel_rfl) g196 <| nN K (tn 1) <| nE K (tn 3) ?_
    exact aro [.ren [0, 3, 4] [0]] ⟨(x134 ++ ([(x189, (x190, (x191, (x192, (x193, (x194, x195))))))])), (wr (x135 + (1 : Int))), rfl, h⟩
   refine VW.exit ?_
   exact arv [.ren [3] [0]] ⟨x134, rfl, h⟩
 rintro s ⟨x100, rfl, h⟩
 unfold F91_j0 at h
 refine nR K (tn 2) ?_
 cases h; exact VW.ret (rt [some 0])
def F89_j0 (N : Nat) (x22 : (List Z44)) : Option ((List Z44)) :=
  some x22
def F89_l0_b (N : Nat) (a0 : (List (List Z44))) (nx38 : (List Z44) → Int → Option ((List Z44))) (x30 : (List Z44)) (x31 : Int) : Option ((List Z44)) :=
  cond (decide (x31 < (a0.length : Int))) (gd (InR x31 a0.length) (andO (F91 N (a0.getD x31.toNat (Ty.dflt (.sl Y44)))) fun y43 => gd (x30.length + y43.length ≤ lim Y44) (nx38 (x30 ++ y43) (IntKind.i64.wrap (x31 + (1 : Int)))))) (F89_j0 N x30)
def F89_l0 (N : Nat) (a0 : (List (List Z44))) := loopF (F89_l0_b N a0) (fun _ _ => none)
theorem F89_l0_s N a0 {k} (hk : 0 < k) x30 x31 : F89_l0 N a0 k x30 x31 = F89_l0_b N a0 (F89_l0 N a0 (k - 1)) x30 x31 := by cases k;cases hk;rfl
def F89 (N : Nat) (a0 : (List (List Z44))) : Option ((List Z44)) :=
  F89_l0 N a0 N ([]) (0 : Int)
theorem ok89 N a0 {r} (h : F89 N a0 = some r) : Con prog 89 [Vv (.sl (.sl Y44)) a0] [.lf (.own Y44 r .dp)] := by
 refine ctr [.lf (.own Y44 .dp)] K func89 rfl fun w0 E0 ht => ?_
 unfold F89 at h
 show VW _ _ _ _ _ (retQ _ _ _ _) _
 refine nR K (tn 1) <| nR K (tn 2) ?_
 refine VW.join (fun s => ∃ x22, s = ⟨[(3, hh 0)], [ar 0 Y44 x22 .dp]⟩ ∧ F89_j0 N x22 = some r) ?_ ?_
 ·refine nR K (tn 1) <| VW.block <| lop (fun k s => ∃ x30 x31, s = ⟨[(0, Vv (.sl (.sl Y44)) a0), (3, hh 0), (4, I x31)], [ar 0 Y44 x30 .dp]⟩ ∧ F89_l0 N a0 k x30 x31 = some r) N [.nilS 3 Y44 .dp, .ren [0, 3, 4] [0]] ⟨[], (0 : Int), rfl, h⟩ ?_
  rintro k38 s ⟨x30, x31, rfl, h⟩
  cases k38 with
  | zero => cases show none = some r from h
  | succ k38 =>
   replace h : F89_l0_b N a0 (F89_l0 N a0 k38) x30 x31 = some r := h
   unfold F89_l0_b at h
   refine sq <| nR K (tn 4) ?_
   refine cnd h ?_ ?_<;>intro h
   ·refine VW.skip <| sq <| VW.block <| VW.region ?_
    obtain⟨g42,h⟩:=gS h
    refine nG K 5 (pu 3 (an g42 (tn 1))) ?_
    obtain⟨y43,hy,h⟩:=aS h
    refine clc false [.t (.sl Y44)] [] (some 17) K (ok91 N _ hy) ?_
    obtain⟨g44,h⟩:=gS h
    refine VO.appY (d := 18) (φ := x30.length + y43.length ≤ lim Y44) (v := .lf (.hd 0 1 none)) (H' := [ar 1 Y44 (x30 ++ y43) .dp, none]) K (by kernel_rfl) g44 <| nN K (tn 1) <| nE K (tn 3) ?_
    exact aro [.ren [0, 3, 4] [0]] ⟨(x30 ++ y43), (wr (x31 + (1 : Int))), rfl, h⟩
   refine VW.exit ?_
   exact arv [.ren [3] [0]] ⟨x30, rfl, h⟩
 rintro s ⟨x22, rfl, h⟩
 unfold F89_j0 at h
 refine nR K (tn 2) ?_
 cases h; exact VW.ret (rt [some 0])
def F74_j0 (N : Nat) (x44 : (List Z44)) (x45 : Int) (x46 : (List Z44)) (x47 : (List Int)) (x48 : Int) (x49 : Int) : Option (Z58 × (List Z44) × Int) :=
  andO (F89 N ([([((4 : Int), (ByteArray.empty, ((0 : Int), ((0 : Int), ((0 : Int), (false, []))))))] : List Z44), x44, x46])) fun y50 => some ((x47, (x48, x49)), y50, x45)
def F74_j1 (N : Nat) (x5 : Int) (x120 : (List Z44)) (x121 : Int) (x122 : Int) (x123 : Int) (x124 : Int) (x125 : (List Int)) (x126 : (List Int)) (x127 : Int) (x128 : Int) : Option (Z58 × (List Z44) × Int) :=
  andO (F89 N ([[(x5, (ByteArray.empty, (x122, (x123, (x124, (false, x125))))))], x120])) fun y129 => some ((x126, (x127, x128)), y129, x121)
def F74_j2 (N : Nat) (x5 : Int) (x161 : (List Z44)) (x162 : (List Int)) (x163 : (List Int)) (x164 : Int) (x165 : Int) : Option (Z58 × (List Z44) × Int) :=
  F74_j1 N x5 x161 (x162.length : Int) (0 : Int) (0 : Int) (0 : Int) x162 x163 x164 x165
def F74_l0_b (N : Nat) (x5 : Int) (nx189 : (List Int) → Int → Int → (List Z44) → Int → (List Int) → Int → Option (Z58 × (List Z44) × Int)) (x178 : (List Int)) (x179 : Int) (x180 : Int) (x181 : (List Z44)) (x182 : Int) (x183 : (List Int)) (x184 : Int) : Option (Z58 × (List Z44) × Int) :=
  cond (decide (x184 > (0 : Int))) (andO (F69 N (x178, (x179, x180)) x182) fun y192 => gd (x183.length + ([y192.2]).length ≤ lim (.int .i64)) (nx189 y192.1.1 y192.1.2.1 y192.1.2.2 x181 x182 (x183 ++ ([y192.2])) (IntKind.i64.wrap (x184 - (1 : Int))))) (F74_j2 N x5 x181 x183 x178 x179 x180)
def F74_l0 (N : Nat) (x5 : Int) := loopF (F74_l0_b N x5) (fun _ _ _ _ _ _ _ => none)
theorem F74_l0_s N x5 {k} (hk : 0 < k) x178 x179 x180 x181 x182 x183 x184 : F74_l0 N x5 k x178 x179 x180 x181 x182 x183 x184 = F74_l0_b N x5 (F74_l0 N x5 (k - 1)) x178 x179 x180 x181 x182 x183 x184 := by cases k;cases hk;rfl
def F74_j3 (N : Nat) (a1 : Int) (self : Z58 → Int → Option (Z58 × (List Z44) × Int)) (x2 : (List Int)) (x3 : Int) (x4 : Int) (x5 : Int) : Option (Z58 × (List Z44) × Int) :=
  cond (x5 == (0 : Int)) (andO (F69 N (x2, (x3, x4)) (3 : Int)) fun y30 => gd (InR y30.2 ([(⟨#[116, 49]⟩ : ByteArray), (⟨#[116, 50]⟩ : ByteArray), (⟨#[116, 51]⟩ : ByteArray)]).length) (gd (y30.2.toNat < ([(⟨#[116, 49]⟩ : ByteArray), (⟨#[116, 50]⟩ : ByteArray), (⟨#[116, 51]⟩ : ByteArray)]).length) (gd (InR y30.2 ([(2 : Int), (3 : Int), (1 : Int)]).length) (gd (y30.2.toNat < ([(2 : Int), (3 : Int), (1 : Int)]).length) (some (y30.1, ([((0 : Int), ((([(⟨#[116, 49]⟩ : ByteArray), (⟨#[116, 50]⟩ : ByteArray), (⟨#[116, 51]⟩ : ByteArray)]).getD y30.2.toNat (Ty.dflt .str)), ((0 : Int), ((0 : Int), ((0 : Int), (false, []))))))] : List Z44), (([(2 : Int), (3 : Int), (1 : Int)]).getD y30.2.toNat (Ty.dflt (.int .i64))))))))) (cond (x5 == (3 : Int)) (andO (self (x2, (x3, x4)) (IntKind.i64.wrap (a1 - (1 : Int)))) fun y35 => andO (self y35.1 (IntKind.i64.wrap (a1 - (2 : Int)))) fun y36 => andO (F69 N y36.1 y35.2.2) fun y37 => andO (F69 N y37.1 y36.2.2) fun y38 => andO (F89 N ([([((3 : Int), (ByteArray.empty, (y37.2, ((0 : Int), (y38.2, (false, []))))))] : List Z44), y35.2.1, y36.2.1])) fun y39 => some (y38.1, y39, (IntKind.i64.wrap (y35.2.2 + y36.2.2)))) (cond (x5 == (4 : Int)) (andO (self (x2, (x3, x4)) (IntKind.i64.wrap (a1 - (1 : Int)))) fun y40 => andO (self y40.1 (IntKind.i64.wrap (a1 - (2 : Int)))) fun y41 => cond (y41.2.2 != y40.2.2) (andO (F89 N ([[((2 : Int), (ByteArray.empty, ((0 : Int), ((0 : Int), ((0 : Int), (false, [(0 : Int)]))))))], y40.2.1])) fun y52 => andO (F89 N ([[((2 : Int), (ByteArray.empty, ((0 : Int), ((0 : Int), ((0 : Int), (false, [(0 : Int)]))))))], y41.2.1])) fun y53 => F74_j0 N y52 (1 : Int) y53 y41.1.1 y41.1.2.1 y41.1.2.2) (F74_j0 N y40.2.1 y40.2.2 y41.2.1 y41.1.1 y41.1.2.1 y41.1.2.2)) (andO (self (x2, (x3, x4)) (IntKind.i64.wrap (a1 - (1 : Int)))) fun y54 => cond (x5 == (1 : Int)) (andO (F69 N y54.1 y54.2.2) fun y131 => andO (F69 N y131.1 (4 : Int)) fun y132 => cond (y132.2 != (3 : Int)) (andO (F69 N y132.1 (6 : Int)) fun y133 => F74_j1 N x5 y54.2.1 y54.2.2 y131.2 y132.2 (IntKind.i64.wrap (y133.2 - (1 : Int))) ([]) y133.1.1 y133.1.2.1 y133.1.2.2) (F74_j1 N x5 y54.2.1 y54.2.2 y131.2 y132.2 (0 : Int) ([]) y132.1.1 y132.1.2.1 y132.1.2.2)) (cond (x5 == (2 : Int)) (andO (F69 N y54.1 (3 : Int)) fun y167 => F74_l0 N x5 N y167.1.1 y167.1.2.1 y167.1.2.2 y54.2.1 y54.2.2 ([]) (IntKind.i64.wrap ((1 : Int) + y167.2))) (cond (x5 == (5 : Int)) (andO (F69 N y54.1 y54.2.2) fun y194 => F74_j1 N x5 y54.2.1 y54.2.2 y194.2 (0 : Int) (0 : Int) ([]) y194.1.1 y194.1.2.1 y194.1.2.2) (cond (x5 == (6 : Int)) (andO (F69 N y54.1 (6 : Int)) fun y195 => F74_j1 N x5 y54.2.1 y54.2.2 (0 : Int) (0 : Int) y195.2 ([]) y195.1.1 y195.1.2.1 y195.1.2.2) (F74_j1 N x5 y54.2.1 y54.2.2 (0 : Int) (0 : Int) (0 : Int) ([]) y54.1.1 y54.1.2.1 y54.1.2.2)))))))
def F74_b (N : Nat) (self : Z58 → Int → Option (Z58 × (List Z44) × Int)) (a0 : Z58) (a1 : Int) : Option (Z58 × (List Z44) × Int) :=
  andO (F76 N a0 ([(0 : Int), (1 : Int), (1 : Int), (1 : Int), (2 : Int), (3 : Int), (4 : Int), (5 : Int), (6 : Int), (7 : Int)])) fun y1 => cond (decide (a1 ≤ (1 : Int))) (F74_j3 N a1 self y1.1.1 y1.1.2.1 y1.1.2.2 (0 : Int)) (F74_j3 N a1 self y1.1.1 y1.1.2.1 y1.1.2.2 y1.2)
theorem ok74_b (N : Nat) (self : Z58 → Int → Option (Z58 × (List Z44) × Int)) (ih : ∀ (a0 : Z58) (a1 : Int) (r : Z58 × (List Z44) × Int), self a0 a1 = some r → ConM prog 74 [bx (lv Y58 a0) 59] [.lf (.ptr 0 0 0 0), I a1] [.lf (.own Y44 r.2.1 .dp), .lf (.v (.int .i64) r.2.2)] [bx (lv Y58 r.1) 59]) (a0 : Z58) (a1 : Int) {r : Z58 × (List Z44) × Int} (h : F74_b N self a0 a1 = some r) : ConM prog 74 [bx (lv Y58 a0) 59] [.lf (.ptr 0 0 0 0), I a1] [.lf (.own Y44 r.2.1 .dp), .lf (.v (.int .i64) r.2.2)] [bx (lv Y58 r.1) 59] := by
 refine ⟨enters_of func74 rfl (by decide), HM.intro [.lf (.own Y44 .dp), .lf (.v (.int .i64))] K func74 rfl (Nat.le_of_ble_eq_true rfl) (Nat.le_of_ble_eq_true rfl) fun w0 E0 ht => ?_⟩
 unfold F74_b at h
 show VW _ _ _ _ _ (retM _ _ _ _ _) _
 refine nR K (tn 2) <| sq <| VW.region <| nG K 2 (tn 2) ?_
 obtain⟨y1,hy,h⟩:=aS h
 refine VO.ghl [.frz 1] <| VO.callM [0] [.r, .t (.sl (.int .i64))] (d := some 25) (by kernel_rfl) (by kernel_rfl) (ok76 N _ _ hy) (by kernel_rfl) <| nN K (tn 1) ?_
 refine VW.join (fun s => ∃ x2 x3 x4 x5, s = ⟨[(0, .lf (.ptr 0 0 0 0)), (1, I a1), (6, I x5), (65536, .lf (.ptr 0 0 0 0))], [bx [.v (.sl (.int .u8)) x2, zi x3, zi x4] 59]⟩ ∧ F74_j3 N a1 self x2 x3 x4 x5 = some r) ?_ ?_
 ·refine nR K (tn 2) ?_
  refine cnd h ?_ ?_<;>intro h
  ·refine nE K (tn 1) ?_
   exact arv [.ren [0, 1, 6, 65536] [0]] ⟨y1.1.1, y1.1.2.1, y1.1.2.2, (0 : Int), rfl, h⟩
  refine VW.skip ?_
  exact arv [.ren [0, 1, 6, 65536] [0]] ⟨y1.1.1, y1.1.2.1, y1.1.2.2, y1.2, rfl, h⟩
 rintro s ⟨x2, x3, x4, x5, rfl, h⟩
 unfold F74_j3 at h
 refine sq <| nR K (tn 1) <| VW.block <| nR K (tn 2) ?_
 refine cnd h ?_ ?_<;>intro h
 ·refine sq <| VW.region <| nG K 1 (tn 1) ?_
  obtain⟨y30,hy,h⟩:=aS h
  refine VO.callM [0] [.r, .t (.int .i64)] (d := some 32) (by kernel_rfl) (by kernel_rfl) (ok69 N _ _ hy) (by kernel_rfl) <| nN K (tn 1) <| nR K (tn 2) <| nR K (tn 2) <| sq <| VW.ghl [.ren [7, 8, 9, 65536] [1, 2, 0]] ?_
  obtain⟨g31,h⟩:=gS h
  obtain⟨g32,h⟩:=gS h
  obtain⟨g33,h⟩:=gS h
  obtain⟨g34,h⟩:=gS h
  refine VW.drawn (by kernel_rfl) [some (35, hh 0), some (36, I y30.2), some (37, .lf (.ptr 0 0 y30.2.toNat 0)), some (38, S (([(⟨#[116, 49]⟩ : ByteArray), (⟨#[116, 50]⟩ : ByteArray), (⟨#[116, 51]⟩ : ByteArray)]).getD y30.2.toNat (Ty.dflt .str))), some (39, .agg [zi (0 : Int), zs (([(⟨#[116, 49]⟩ : ByteArray), (⟨#[116, 50]⟩ : ByteArray), (⟨#[116, 51]⟩ : ByteArray)]).getD y30.2.toNat (Ty.dflt .str)), zi (0 : Int), zi (0 : Int), zi (0 : Int), zb false, .nil]), some (40, hh 3), some (41, hh 1), some (42, I y30.2), some (43, .lf (.ptr 1 0 y30.2.toNat 0)), some (44, I (([(2 : Int), (3 : Int), (1 : Int)]).getD y30.2.toNat (Ty.dflt (.int .i64)))), some (4, hh 3), some (5, I (([(2 : Int), (3 : Int), (1 : Int)]).getD y30.2.toNat (Ty.dflt (.int .i64))))] [5] [[ar 0 .str ([(⟨#[116, 49]⟩ : ByteArray), (⟨#[116, 50]⟩ : ByteArray), (⟨#[116, 51]⟩ : ByteArray)]) .dp, ar 0 (.int .i64) ([(2 : Int), (3 : Int), (1 : Int)]) .dp, bx (lv Y58 y30.1) 59], [ar 0 .str ([(⟨#[116, 49]⟩ : ByteArray), (⟨#[116, 50]⟩ : ByteArray), (⟨#[116, 51]⟩ : ByteArray)]) .dp, ar 0 (.int .i64) ([(2 : Int), (3 : Int), (1 : Int)]) .dp, bx (lv Y58 y30.1) 59, ar 0 Y44 ([((0 : Int), ((([(⟨#[116, 49]⟩ : ByteArray), (⟨#[116, 50]⟩ : ByteArray), (⟨#[116, 51]⟩ : ByteArray)]).getD y30.2.toNat (Ty.dflt .str)), ((0 : Int), ((0 : Int), ((0 : Int), (false, []))))))] : List Z44) .dp]] [(0, 0), (0, 1), (1, 0), (1, 1), (2, 0), (2, 1), (3, 0), (3, 1), (4, 0), (5, 0), (6, 0), (6, 1), (7, 0), (7, 1), (8, 0), (8, 1), (9, 0), (9, 1), (10, 1), (11, 1)] [4, 5, 65536] [3, 2] (s' := ⟨[(4, hh 0), (5, I (([(2 : Int), (3 : Int), (1 : Int)]).getD y30.2.toNat (Ty.dflt (.int .i64)))), (65536, .lf (.ptr 1 0 0 0))], [ar 0 Y44 ([((0 : Int), ((([(⟨#[116, 49]⟩ : ByteArray), (⟨#[116, 50]⟩ : ByteArray), (⟨#[116, 51]⟩ : ByteArray)]).getD y30.2.toNat (Ty.dflt .str)), ((0 : Int), ((0 : Int), ((0 : Int), (false, []))))))] : List Z44) .dp, bx (lv Y58 y30.1) 59]⟩) (by kernel_rfl) (by kernel_rfl) ⟨qT K,
    qT K,
    qT K,
    qT K,
    ⟨_, rfl, Stp.ev K (m := .dp) (φ := InR y30.2 ([(⟨#[116, 49]⟩ : ByteArray), (⟨#[116, 50]⟩ : ByteArray), (⟨#[116, 51]⟩ : ByteArray)]).length) (by kernel_rfl) g31⟩,
    ⟨_, rfl, Stp.ev K (m := .dp) (φ := InR y30.2 ([(⟨#[116, 49]⟩ : ByteArray), (⟨#[116, 50]⟩ : ByteArray), (⟨#[116, 51]⟩ : ByteArray)]).length) (by kernel_rfl) g31⟩,
    ⟨_, rfl, Stp.ev K (m := .dp) (φ := y30.2.toNat < ([(⟨#[116, 49]⟩ : ByteArray), (⟨#[116, 50]⟩ : ByteArray), (⟨#[116, 51]⟩ : ByteArray)]).length) (by kernel_rfl) g32⟩,
    ⟨_, rfl, Stp.ev K (m := .dp) (φ := y30.2.toNat < ([(⟨#[116, 49]⟩ : ByteArray), (⟨#[116, 50]⟩ : ByteArray), (⟨#[116, 51]⟩ : ByteArray)]).length) (by kernel_rfl) g32⟩,
    qT K,
    ⟨_, rfl, Stp.litA K (by kernel_rfl)⟩,
    qT K,
    qT K,
    qT K,
    qT K,
    ⟨_, rfl, Stp.ev K (m := .dp) (φ := InR y30.2 ([(2 : Int), (3 : Int), (1 : Int)]).length) (by kernel_rfl) g33⟩,
    ⟨_, rfl, Stp.ev K (m := .dp) (φ := InR y30.2 ([(2 : Int), (3 : Int), (1 : Int)]).length) (by kernel_rfl) g33⟩,
    ⟨_, rfl, Stp.ev K (m := .dp) (φ := y30.2.toNat < ([(2 : Int), (3 : Int), (1 : Int)]).length) (by kernel_rfl) g34⟩,
    ⟨_, rfl, Stp.ev K (m := .dp) (φ := y30.2.toNat < ([(2 : Int), (3 : Int), (1 : Int)]).length) (by kernel_rfl) g34⟩,
    qT K,
    qT K, trivial⟩ (by kernel_rfl) ?_
  replace h := Option.some.inj h
  subst h
  refine VW.ghl [.ren [4, 5, 65536] [1, 0]] (VW.ret ?_)
  exact ⟨[some 1], by kernel_rfl, by kernel_rfl, by kernel_rfl⟩
 refine nR K (tn 2) ?_
 refine cnd h ?_ ?_<;>intro h
 ·refine sq <| VW.region <| nG K 3 (tn 3) ?_
  obtain⟨y35,hy,h⟩:=aS h
  refine VO.callM [0] [.r, .t (.int .i64)] (d := some 51) (by kernel_rfl) (by kernel_rfl) (ih _ _ _ hy) (by kernel_rfl) <| nN K (tn 5) <| sq <| VW.region <| nG K 3 (tn 3) ?_
  obtain⟨y36,hy,h⟩:=aS h
  refine VO.callM [0] [.r, .t (.int .i64)] (d := some 58) (by kernel_rfl) (by kernel_rfl) (ih _ _ _ hy) (by kernel_rfl) <| nN K (tn 5) <| sq <| VW.region <| nG K 2 (tn 2) ?_
  obtain⟨y37,hy,h⟩:=aS h
  refine VO.callM [0] [.r, .t (.int .i64)] (d := some 63) (by kernel_rfl) (by kernel_rfl) (ok69 N _ _ hy) (by kernel_rfl) <| nG K 2 (tn 2) ?_
  obtain⟨y38,hy,h⟩:=aS h
  refine VO.callM [0] [.r, .t (.int .i64)] (d := some 66) (by kernel_rfl) (by kernel_rfl) (ok69 N _ _ hy) (by kernel_rfl) <| nN K (tn 3) <| sq <| VW.region <| nG K 1 (tn 1) <| VO.litA (d := 69) (v := hh 4) (H' := [bx (lv Y58 y38.1) 59, ar 0 Y44 y35.2.1 .dp, ar 0 Y44 y36.2.1 .dp, bx [zi (3 : Int), zs ByteArray.empty, zi y37.2, zi (0 : Int), zi y38.2, zb false, .nil] 45, ar 0 Y44 ([((3 : Int), (ByteArray.empty, (y37.2, ((0 : Int), (y38.2, (false, []))))))] : List Z44) .dp]) K (by kernel_rfl) ?_
  refine nG K 2 (tn 2) <| VO.ghl [.frz 4, .frz 1, .frz 2] <| nG K 1 (tn 1) ?_
  obtain⟨y39,hy,h⟩:=aS h
  refine clc true [.t (.sl (.sl Y44))] [] (some 73) K (ok89 N _ hy) <| nN K (tn 5) ?_
  replace h := Option.some.inj h
  subst h
  refine VW.ghl [.ren [4, 5, 65536] [0, 6]] (VW.ret ?_)
  exact ⟨[some 1], by kernel_rfl, by kernel_rfl, by kernel_rfl⟩
 refine nR K (tn 2) ?_
 refine cnd h ?_ ?_<;>intro h
 ·refine sq <| VW.region <| nG K 3 (tn 3) ?_
  obtain⟨y40,hy,h⟩:=aS h
  refine VO.callM [0] [.r, .t (.int .i64)] (d := some 83) (by kernel_rfl) (by kernel_rfl) (ih _ _ _ hy) (by kernel_rfl) <| nN K (tn 5) <| sq <| VW.region <| nG K 3 (tn 3) ?_
  obtain⟨y41,hy,h⟩:=aS h
  refine VO.callM [0] [.r, .t (.int .i64)] (d := some 90) (by kernel_rfl) (by kernel_rfl) (ih _ _ _ hy) (by kernel_rfl) <| nN K (tn 5) ?_
  refine VW.join (fun s => ∃ x44 x45 x46 x47 x48 x49, s = ⟨[(15, hh 0), (16, I x45), (17, hh 1), (65536, .lf (.ptr 2 0 0 0))], [ar 0 Y44 x44 .dp, ar 0 Y44 x46 .dp, bx [.v (.sl (.int .u8)) x47, zi x48, zi x49] 59]⟩ ∧ F74_j0 N x44 x45 x46 x47 x48 x49 = some r) ?_ ?_
  ·refine nR K (tn 3) ?_
   refine cnd h ?_ ?_<;>intro h
   ·refine sq <| VW.region <| nG K 2 (tn 2) <| VO.litA (d := 98) (v := hh 4) (H' := [bx (lv Y58 y41.1) 59, ar 0 Y44 y40.2.1 .dp, ar 0 Y44 y41.2.1 .dp, none, ar 0 Y44 ([((2 : Int), (ByteArray.empty, ((0 : Int), ((0 : Int), ((0 : Int), (false, [(0 : Int)]))))))]) .dp]) K (by kernel_rfl) <| nG K 1 (tn 1) <| VO.ghl [.frz 4, .frz 1] <| nG K 1 (tn 1) ?_
    obtain⟨y52,hy,h⟩:=aS h
    refine clc true [.t (.sl (.sl Y44))] [] (some 101) K (ok89 N _ hy) <| nN K (tn 1) <| sq <| VW.region <| nG K 2 (tn 2) <| VO.litA (d := 104) (v := hh 8) (H' := [bx (lv Y58 y41.1) 59, none, ar 0 Y44 y41.2.1 .dp, none, none, ar 0 (.sl Y44) ([[((2 : Int), (ByteArray.empty, ((0 : Int), ((0 : Int), ((0 : Int), (false, [(0 : Int)]))))))], y40.2.1]) .tp, ar 0 Y44 y52 .dp, none, ar 0 Y44 ([((2 : Int), (ByteArray.empty, ((0 : Int), ((0 : Int), ((0 : Int), (false, [(0 : Int)]))))))]) .dp]) K (by kernel_rfl) ?_
    refine nG K 1 (tn 1) <| VO.ghl [.frz 8, .frz 2] <| nG K 1 (tn 1) ?_
    obtain⟨y53,hy,h⟩:=aS h
    refine clc true [.t (.sl (.sl Y44))] [] (some 107) K (ok89 N _ hy) <| nN K (tn 1) <| nE K (tn 1) ?_
    exact arv [.ren [15, 16, 17, 65536] [6, 10, 0]] ⟨y52, (1 : Int), y53, y41.1.1, y41.1.2.1, y41.1.2.2, rfl, h⟩
   refine VW.skip ?_
   exact arv [.ren [15, 16, 17, 65536] [1, 2, 0]] ⟨y40.2.1, y40.2.2, y41.2.1, y41.1.1, y41.1.2.1, y41.1.2.2, rfl, h⟩
  rintro s ⟨x44, x45, x46, x47, x48, x49, rfl, h⟩
  unfold F74_j0 at h
  refine sq <| VW.region <| nG K 1 (tn 1) <| VO.litA (d := 109) (v := hh 3) (H' := [ar 0 Y44 x44 .dp, ar 0 Y44 x46 .dp, bx [.v (.sl (.int .u8)) x47, zi x48, zi x49] 59, ar 0 Y44 ([((4 : Int), (ByteArray.empty, ((0 : Int), ((0 : Int), ((0 : Int), (false, []))))))] : List Z44) .dp]) K (by kernel_rfl) <| nG K 2 (tn 2) <| VO.ghl [.frz 3, .frz 0, .frz 1] <| nG K 1 (tn 1) ?_
  obtain⟨y50,hy,h⟩:=aS h
  refine clc true [.t (.sl (.sl Y44))] [] (some 113) K (ok89 N _ hy) <| nN K (tn 3) ?_
  replace h := Option.some.inj h
  subst h
  refine VW.ghl [.ren [4, 5, 65536] [2, 5]] (VW.ret ?_)
  exact ⟨[some 1], by kernel_rfl, by kernel_rfl, by kernel_rfl⟩
 refine VW.skip <| sq <| VW.region <| nG K 3 (tn 3) ?_
 obtain⟨y54,hy,h⟩:=aS h
 refine VO.callM [0] [.r, .t (.int .i64)] (d := some 119) (by kernel_rfl) (by kernel_rfl) (ih _ _ _ hy) (by kernel_rfl) <| nN K (tn 5) <| nR K (tn 4) ?_
 refine VW.join (fun s => ∃ x120 x121 x122 x123 x124 x125 x126 x127 x128, s = ⟨[(19, hh 0), (20, I x121), (21, .lf (.ptr 1 0 0 0)), (65536, .lf (.ptr 3 0 0 0))], [ar 0 Y44 x120 .dp, bx [zi x5, zs ByteArray.empty, zi x122, zi x123, zi x124, zb false, .hd 2 0 none] 45, ar 0 (.int .i64) x125 .dp, bx [.v (.sl (.int .u8)) x126, zi x127, zi x128] 59]⟩ ∧ F74_j1 N x5 x120 x121 x122 x123 x124 x125 x126 x127 x128 = some r) ?_ ?_
 ·refine nR K (tn 1) <| VW.block <| nR K (tn 2) ?_
  refine cnd h ?_ ?_<;>intro h
  ·refine sq <| VW.region <| nG K 2 (tn 2) ?_
   obtain⟨y131,hy,h⟩:=aS h
   refine VO.callM [0] [.r, .t (.int .i64)] (d := some 129) (by kernel_rfl) (by kernel_rfl) (ok69 N _ _ hy) (by kernel_rfl) <| nN K (tn 2) <| sq <| VW.region <| nG K 1 (tn 1) ?_
   obtain⟨y132,hy,h⟩:=aS h
   refine VO.callM [0] [.r, .t (.int .i64)] (d := some 132) (by kernel_rfl) (by kernel_rfl) (ok69 N _ _ hy) (by kernel_rfl) <| sN K [0, 19, 20, 21, 65536] [0, 1, 2] ⟨[(0, .lf (.ptr 0 0 0 0)), (19, hh 1), (20, I y54.2.2), (21, .lf (.ptr 2 0 0 0)), (65536, .lf (.ptr 0 0 0 0))], [bx (lv Y58 y132.1) 59, ar 0 Y44 y54.2.1 .dp, bx [zi x5, zs ByteArray.empty, zi y131.2, zi y132.2, zi (0 : Int), zb false, .nil] 45]⟩ (tn 2) ?_
   refine nR K (tn 3) ?_
   refine cnd h ?_ ?_<;>intro h
   ·refine VW.region <| nG K 1 (tn 1) ?_
    obtain⟨y133,hy,h⟩:=aS h
    refine VO.callM [0] [.r, .t (.int .i64)] (d := some 138) (by kernel_rfl) (by kernel_rfl) (ok69 N _ _ hy) (by kernel_rfl) <| nN K (tn 3) ?_
    exact arv [.nil 2 6 (.int .i64) .dp, .ren [19, 20, 21, 65536] [1, 2, 3, 0]] ⟨y54.2.1, y54.2.2, y131.2, y132.2, (wr (y133.2 - (1 : Int))), [], y133.1.1, y133.1.2.1, y133.1.2.2, rfl, h⟩
   refine VW.skip ?_
   exact arv [.nil 2 6 (.int .i64) .dp, .ren [19, 20, 21, 65536] [1, 2, 3, 0]] ⟨y54.2.1, y54.2.2, y131.2, y132.2, (0 : Int), [], y132.1.1, y132.1.2.1, y132.1.2.2, rfl, h⟩
  refine nR K (tn 2) ?_
  refine cnd h ?_ ?_<;>intro h
  ·refine VW.join (fun s => ∃ x161 x162 x163 x164 x165, s = ⟨[(19, hh 0), (21, .lf (.ptr 1 0 0 0)), (65536, .lf (.ptr 3 0 0 0))], [ar 0 Y44 x161 .dp, bx [zi x5, zs ByteArray.empty, zi (0 : Int), zi (0 : Int), zi (0 : Int), zb false, .hd 2 0 none] 45, ar 0 (.int .i64) x162 .dp, bx [.v (.sl (.int .u8)) x163, zi x164, zi x165] 59]⟩ ∧ F74_j2 N x5 x161 x162 x163 x164 x165 = some r) ?_ ?_
   ·refine sq <| VW.region <| nG K 1 (tn 1) ?_
    obtain⟨y167,hy,h⟩:=aS h
    refine VO.callM [0] [.r, .t (.int .i64)] (d := some 144) (by kernel_rfl) (by kernel_rfl) (ok69 N _ _ hy) (by kernel_rfl) <| nN K (tn 2) <| VW.block <| lop (fun k s => ∃ x178 x179 x180 x181 x182 x183 x184, s = ⟨[(0, .lf (.ptr 0 0 0 0)), (19, hh 1), (20, I x182), (21, .lf (.ptr 2 0 0 0)), (22, I x184), (65536, .lf (.ptr 0 0 0 0))], [bx [.v (.sl (.int .u8)) x178, zi x179, zi x180] 59, ar 0 Y44 x181 .dp, bx [zi x5, zs ByteArray.empty, zi (0 : Int), zi (0 : Int), zi (0 : Int), zb false, .hd 3 0 none] 45, ar 0 (.int .i64) x183 .dp]⟩ ∧ F74_l0 N x5 k x178 x179 x180 x181 x182 x183 x184 = some r) N [.nil 2 6 (.int .i64) .dp, .ren [0, 19, 20, 21, 22, 65536] [0, 1, 2, 3]] ⟨y167.1.1, y167.1.2.1, y167.1.2.2, y54.2.1, y54.2.2, [], (wr ((1 : Int) + y167.2)), rfl, h⟩ ?_
    rintro k189 s ⟨x178, x179, x180, x181, x182, x183, x184, rfl, h⟩
    cases k189 with
    | zero => cases show none = some r from h
    | succ k189 =>
     replace h : F74_l0_b N x5 (F74_l0 N x5 k189) x178 x179 x180 x181 x182 x183 x184 = some r := h
     unfold F74_l0_b at h
     refine sq <| nR K (tn 2) ?_
     refine cnd h ?_ ?_<;>intro h
     ·refine VW.skip <| sq <| VW.block <| VW.ghl [.ren [0, 19, 20, 21, 22, 65536] [0, 1, 2, 3]] ?_
      obtain⟨y192,hy192,h⟩:=aS h
      obtain⟨g193,h⟩:=gS h
      refine VW.drawn (by kernel_rfl) [some (150, .lf (.ptr 2 0 0 6)), some (151, hh 3), some (152, .lf (.ptr 0 0 0 0)), some (153, I x182), some (154, I y192.2), some (155, hh 4), some (156, .lf (.hd 3 1 none)), some (157, .lf (.ptr 2 0 0 6)), none] [4, 5, 6, 8] [[bx [.v (.sl (.int .u8)) x178, zi x179, zi x180] 59, ar 0 Y44 x181 .dp, bx [zi x5, zs ByteArray.empty, zi (0 : Int), zi (0 : Int), zi (0 : Int), zb false, .hd 3 0 none] 45, ar 0 (.int .i64) x183 .dp], [bx (lv Y58 y192.1) 59, ar 0 Y44 x181 .dp, bx [zi x5, zs ByteArray.empty, zi (0 : Int), zi (0 : Int), zi (0 : Int), zb false, .hd 3 0 none] 45, ar 0 (.int .i64) x183 .dp], [bx (lv Y58 y192.1) 59, ar 0 Y44 x181 .dp, bx [zi x5, zs ByteArray.empty, zi (0 : Int), zi (0 : Int), zi (0 : Int), zb false, .hd 3 0 none] 45, ar 0 (.int .i64) x183 .dp, ar 0 (.int .i64) ([y192.2]) .dp], [bx (lv Y58 y192.1) 59, ar 0 Y44 x181 .dp, bx [zi x5, zs ByteArray.empty, zi (0 : Int), zi (0 : Int), zi (0 : Int), zb false, .hd 3 0 none] 45, ar 1 (.int .i64) (x183 ++ ([y192.2])) .dp, ar 0 (.int .i64) ([y192.2]) .dp], [bx (lv Y58 y192.1) 59, ar 0 Y44 x181 .dp, bx [zi x5, zs ByteArray.empty, zi (0 : Int), zi (0 : Int), zi (0 : Int), zb false, .hd 3 1 none] 45, ar 1 (.int .i64) (x183 ++ ([y192.2])) .dp, ar 0 (.int .i64) ([y192.2]) .dp]] [(0, 0), (0, 1), (0, 2), (0, 3), (1, 0), (1, 1), (1, 2), (2, 0), (3, 0), (4, 0), (5, 1), (6, 2), (7, 3), (8, 3)] [0, 19, 20, 21, 22, 65536] [0, 1, 2, 3] (s' := ⟨[(0, .lf (.ptr 0 0 0 0)), (19, hh 1), (20, I x182), (21, .lf (.ptr 2 0 0 0)), (22, I x184), (65536, .lf (.ptr 0 0 0 0))], [bx (lv Y58 y192.1) 59, ar 0 Y44 x181 .dp, bx [zi x5, zs ByteArray.empty, zi (0 : Int), zi (0 : Int), zi (0 : Int), zb false, .hd 3 0 none] 45, ar 0 (.int .i64) (x183 ++ ([y192.2])) .dp]⟩) (by kernel_rfl) (by kernel_rfl) ⟨qT K,
    qT K,
    qT K,
    qT K,
    qT K,
    qT K,
    qT K,
    qT K,
    qT K,
    ⟨_, rfl, Stp.eq (Stp.callM [0] [.r, .t (.int .i64)] (d := some 154) (by kernel_rfl) (by kernel_rfl) (ok69 N _ _ hy192) (by kernel_rfl)) (by kernel_rfl) (by kernel_rfl)⟩,
    qT K,
    ⟨_, rfl, Stp.ev K (m := .dp) (φ := x183.length + ([y192.2]).length ≤ lim (.int .i64)) (by kernel_rfl) g193⟩,
    qT K,
    qT K, trivial⟩ (by kernel_rfl) ?_
      refine nE K (tn 3) ?_
      exact aro [.ren [0, 19, 20, 21, 22, 65536] [0, 1, 2, 3]] ⟨y192.1.1, y192.1.2.1, y192.1.2.2, x181, x182, (x183 ++ ([y192.2])), (wr (x184 - (1 : Int))), rfl, h⟩
     refine VW.exit ?_
     exact arv [.ren [19, 21, 65536] [1, 2, 3, 0]] ⟨x181, x183, x178, x179, x180, rfl, h⟩
   rintro s ⟨x161, x162, x163, x164, x165, rfl, h⟩
   unfold F74_j2 at h
   refine nE K (tn 4) ?_
   exact arv [.ren [19, 20, 21, 65536] [0, 1, 2, 3]] ⟨x161, (x162.length : Int), (0 : Int), (0 : Int), (0 : Int), x162, x163, x164, x165, rfl, h⟩
  refine nR K (tn 2) ?_
  refine cnd h ?_ ?_<;>intro h
  ·refine VW.region <| nG K 2 (tn 2) ?_
   obtain⟨y194,hy,h⟩:=aS h
   refine VO.callM [0] [.r, .t (.int .i64)] (d := some 165) (by kernel_rfl) (by kernel_rfl) (ok69 N _ _ hy) (by kernel_rfl) <| sN K [19, 20, 21, 65536] [1, 2, 0] ⟨[(19, hh 0), (20, I y54.2.2), (21, .lf (.ptr 1 0 0 0)), (65536, .lf (.ptr 2 0 0 0))], [ar 0 Y44 y54.2.1 .dp, bx [zi x5, zs ByteArray.empty, zi y194.2, zi (0 : Int), zi (0 : Int), zb false, .nil] 45, bx (lv Y58 y194.1) 59]⟩ (tn 2) ?_
   exact arv [.nil 1 6 (.int .i64) .dp, .ren [19, 20, 21, 65536] [0, 1, 3, 2]] ⟨y54.2.1, y54.2.2, y194.2, (0 : Int), (0 : Int), [], y194.1.1, y194.1.2.1, y194.1.2.2, rfl, h⟩
  refine nR K (tn 2) ?_
  refine cnd h ?_ ?_<;>intro h
  ·refine VW.region <| sG K 1 [19, 20, 21, 169, 65536] [1, 2, 0] ⟨[(19, hh 0), (20, I y54.2.2), (21, .lf (.ptr 1 0 0 0)), (169, .lf (.ptr 2 0 0 0)), (65536, .lf (.ptr 2 0 0 0))], [ar 0 Y44 y54.2.1 .dp, bx [zi x5, zs ByteArray.empty, zi (0 : Int), zi (0 : Int), zi (0 : Int), zb false, .nil] 45, bx (lv Y58 y54.1) 59]⟩ (tn 1) ?_
   obtain⟨y195,hy,h⟩:=aS h
   refine VO.callM [2] [.r, .t (.int .i64)] (d := some 170) (by kernel_rfl) (by kernel_rfl) (ok69 N _ _ hy) (by kernel_rfl) <| nN K (tn 2) ?_
   exact arv [.nil 1 6 (.int .i64) .dp, .ren [19, 20, 21, 65536] [0, 1, 3, 2]] ⟨y54.2.1, y54.2.2, (0 : Int), (0 : Int), y195.2, [], y195.1.1, y195.1.2.1, y195.1.2.2, rfl, h⟩
  refine VW.skip ?_
  exact arv [.nil 2 6 (.int .i64) .dp, .ren [19, 20, 21, 65536] [1, 2, 3, 0]] ⟨y54.2.1, y54.2.2, (0 : Int), (0 : Int), (0 : Int), [], y54.1.1, y54.1.2.1, y54.1.2.2, rfl, h⟩
 rintro s ⟨x120, x121, x122, x123, x124, x125, x126, x127, x128, rfl, h⟩
 unfold F74_j1 at h
 refine sq <| VW.region <| nG K 1 (tn 1) <| VO.litA (d := 173) (v := hh 4) (H' := [ar 0 Y44 x120 .dp, bx [zi x5, zs ByteArray.empty, zi x122, zi x123, zi x124, zb false, .hd 2 0 none] 45, none, bx [.v (.sl (.int .u8)) x126, zi x127, zi x128] 59, ar 0 Y44 ([(x5, (ByteArray.empty, (x122, (x123, (x124, (false, x125))))))]) .dp]) K (by kernel_rfl) <| nG K 1 (tn 1) <| VO.ghl [.frz 4, .frz 0] <| nG K 1 (tn 1) ?_
 obtain⟨y129,hy,h⟩:=aS h
 refine clc true [.t (.sl (.sl Y44))] [] (some 176) K (ok89 N _ hy) <| nN K (tn 3) ?_
 replace h := Option.some.inj h
 subst h
 refine VW.ghl [.ren [4, 5, 65536] [3, 6]] (VW.ret ?_)
 exact ⟨[some 1], by kernel_rfl, by kernel_rfl, by kernel_rfl⟩
def F74_r (N : Nat) := loopF (F74_b N) (fun _ _ => none)
theorem F74_s N {k} (hk : 0 < k) a0 a1 : F74_r N k a0 a1 = F74_b N (F74_r N (k - 1)) a0 a1 := by cases k;cases hk;rfl
def F74 (N : Nat) : Z58 → Int → Option (Z58 × (List Z44) × Int) := F74_r N N
theorem ok74_k (N : Nat) : ∀ (k : Nat) (a0 : Z58) (a1 : Int) (r : Z58 × (List Z44) × Int), loopF (F74_b N) (fun _ _ => none) k a0 a1 = some r → ConM prog 74 [bx (lv Y58 a0) 59] [.lf (.ptr 0 0 0 0), I a1] [.lf (.own Y44 r.2.1 .dp), .lf (.v (.int .i64) r.2.2)] [bx (lv Y58 r.1) 59]
 | 0, a0, a1, r, h => nomatch (show (none : Option (Z58 × (List Z44) × Int)) = some r from h)
 | k + 1, a0, a1, r, h => ok74_b N _ (ok74_k N k) a0 a1 h
theorem ok74 N a0 a1 {r} (h : F74 N a0 a1 = some r) : ConM prog 74 [bx (lv Y58 a0) 59] [.lf (.ptr 0 0 0 0), I a1] [.lf (.own Y44 r.2.1 .dp), .lf (.v (.int .i64) r.2.2)] [bx (lv Y58 r.1) 59] := ok74_k N N a0 a1 r h
def F75 (N : Nat) (a0 : (List Int)) (a1 : Int) : Option (Int) :=
  cond (decide ((IntKind.i64.wrap ((2 : Int) + (IntKind.i64.wrap (Int.tdiv (a0.length : Int) (16 : Int))))) > a1)) (some a1) (some (IntKind.i64.wrap ((2 : Int) + (IntKind.i64.wrap (Int.tdiv (a0.length : Int) (16 : Int))))))
theorem ok75 N a0 a1 {r} (h : F75 N a0 a1 = some r) : Con prog 75 [Vv (.sl (.int .u8)) a0, I a1] [.lf (.v (.int .i64) r)] := by
 refine ctr [.lf (.v (.int .i64))] K func75 rfl fun w0 E0 ht => ?_
 unfold F75 at h
 show VW _ _ _ _ _ (retQ _ _ _ _) _
 refine nR K (tn 1) <| nR K (pu 2 (an (show ((16 : Int) ≠ 0) from by decide) (tn 2))) <| sq <| nR K (tn 3) ?_
 refine cnd h ?_ ?_<;>intro h
 ·refine nR K (tn 2) ?_
  cases h; exact VW.ret (rt [])
 refine VW.skip <| nR K (tn 2) ?_
 cases h; exact VW.ret (rt [])
def F42 (N : Nat) (a0 : Z58) (a1 : (List Int)) : Option (Z58 × (List Z44)) :=
  andO (F75 N a1 (7 : Int)) fun y1 => andO (F69 N a0 y1) fun y2 => andO (F74 N y2.1 (IntKind.i64.wrap ((1 : Int) + y2.2))) fun y3 => some (y3.1, y3.2.1)
theorem ok42 N a0 a1 {r} (h : F42 N a0 a1 = some r) : ConM prog 42 [bx (lv Y58 a0) 59] [.lf (.ptr 0 0 0 0), Vv (.sl (.int .u8)) a1] [.lf (.own Y44 r.2 .dp)] [bx (lv Y58 r.1) 59] := by
 refine ⟨enters_of func42 rfl (by decide), HM.intro [.lf (.own Y44 .dp)] K func42 rfl (Nat.le_of_ble_eq_true rfl) (Nat.le_of_ble_eq_true rfl) fun w0 E0 ht => ?_⟩
 unfold F42 at h
 show VW _ _ _ _ _ (retM _ _ _ _ _) _
 refine nR K (tn 1) <| sq <| VW.region <| nG K 3 (tn 3) ?_
 obtain⟨y1,hy,h⟩:=aS h
 refine clc false [.t (.sl (.int .u8)), .t (.int .i64)] [] (some 11) K (ok75 N _ _ hy) ?_
 obtain⟨y2,hy,h⟩:=aS h
 refine VO.callM [0] [.r, .t (.int .i64)] (d := some 12) (by kernel_rfl) (by kernel_rfl) (ok69 N _ _ hy) (by kernel_rfl) <| nG K 1 (tn 1) ?_
 obtain⟨y3,hy,h⟩:=aS h
 refine VO.callM [0] [.r, .t (.int .i64)] (d := some 14) (by kernel_rfl) (by kernel_rfl) (ok74 N _ _ hy) (by kernel_rfl) <| nN K (tn 5) <| nR K (tn 2) ?_
 replace h := Option.some.inj h
 subst h
 refine VW.ghl [.ren [4, 65536] [0, 1]] (VW.ret ?_)
 exact ⟨[some 1], by kernel_rfl, by kernel_rfl, by kernel_rfl⟩
def F43_j0 (N : Nat) (x22 : (List Z44)) (x23 : (List Int)) (x24 : Int) (x25 : Int) : Option (Z58 × (List Z44)) :=
  some ((x23, (x24, x25)), x22)
def F43 (N : Nat) (a0 : Z58) (a1 : (List Z44)) : Option (Z58 × (List Z44)) :=
  andO (F36 N a0 (8 : Int)) fun y2 => cond (!y2.2) (some (y2.1, a1)) (cond ((a1.length : Int) == (0 : Int)) (some (y2.1, a1)) (andO (F69 N y2.1 (a1.length : Int)) fun y3 => andO (F69 N y3.1 (7 : Int)) fun y27 => cond (y27.2 == (0 : Int)) (andO (F69 N y27.1 (10 : Int)) fun y28 => gd (InR y3.2 a1.length) (gd (y3.2.toNat < a1.length) (F43_j0 N (a1.set y3.2.toNat ((IntKind.i64.wrap (y28.2 - (1 : Int))), ((a1.getD y3.2.toNat (Ty.dflt Y44)).2.1, ((a1.getD y3.2.toNat (Ty.dflt Y44)).2.2.1, ((a1.getD y3.2.toNat (Ty.dflt Y44)).2.2.2.1, ((a1.getD y3.2.toNat (Ty.dflt Y44)).2.2.2.2.1, ((a1.getD y3.2.toNat (Ty.dflt Y44)).2.2.2.2.2.1, (a1.getD y3.2.toNat (Ty.dflt Y44)).2.2.2.2.2.2))))))) y28.1.1 y28.1.2.1 y28.1.2.2))) (cond (y27.2 == (1 : Int)) (andO (F76 N y27.1 ([(-1 : Int), (63 : Int), (64 : Int), (2 : Int)])) fun y31 => gd (InR y3.2 a1.length) (gd (y3.2.toNat < a1.length) (F43_j0 N (a1.set y3.2.toNat ((a1.getD y3.2.toNat (Ty.dflt Y44)).1, ((a1.getD y3.2.toNat (Ty.dflt Y44)).2.1, (y31.2, ((a1.getD y3.2.toNat (Ty.dflt Y44)).2.2.2.1, ((a1.getD y3.2.toNat (Ty.dflt Y44)).2.2.2.2.1, ((a1.getD y3.2.toNat (Ty.dflt Y44)).2.2.2.2.2.1, (a1.getD y3.2.toNat (Ty.dflt Y44)).2.2.2.2.2.2))))))) y31.1.1 y31.1.2.1 y31.1.2.2))) (cond (y27.2 == (2 : Int)) (andO (F76 N y27.1 ([(-1 : Int), (1000000 : Int), (1000001 : Int)])) fun y34 => gd (InR y3.2 a1.length) (gd (y3.2.toNat < a1.length) (F43_j0 N (a1.set y3.2.toNat ((a1.getD y3.2.toNat (Ty.dflt Y44)).1, ((a1.getD y3.2.toNat (Ty.dflt Y44)).2.1, ((a1.getD y3.2.toNat (Ty.dflt Y44)).2.2.1, ((a1.getD y3.2.toNat (Ty.dflt Y44)).2.2.2.1, (y34.2, ((a1.getD y3.2.toNat (Ty.dflt Y44)).2.2.2.2.2.1, (a1.getD y3.2.toNat (Ty.dflt Y44)).2.2.2.2.2.2))))))) y34.1.1 y34.1.2.1 y34.1.2.2))) (cond (y27.2 == (3 : Int)) (gd (InR y3.2 a1.length) (gd (y3.2.toNat < a1.length) (F43_j0 N (a1.set y3.2.toNat ((a1.getD y3.2.toNat (Ty.dflt Y44)).1, ((a1.getD y3.2.toNat (Ty.dflt Y44)).2.1, ((a1.getD y3.2.toNat (Ty.dflt Y44)).2.2.1, ((a1.getD y3.2.toNat (Ty.dflt Y44)).2.2.2.1, ((a1.getD y3.2.toNat (Ty.dflt Y44)).2.2.2.2.1, (true, (a1.getD y3.2.toNat (Ty.dflt Y44)).2.2.2.2.2.2))))))) y27.1.1 y27.1.2.1 y27.1.2.2))) (cond (y27.2 == (4 : Int)) (gd (InR y3.2 a1.length) (gd (y3.2.toNat < a1.length) (gd (a1.length + ([(a1.getD y3.2.toNat (Ty.dflt Y44))]).length ≤ lim Y44) (F43_j0 N (a1 ++ ([(a1.getD y3.2.toNat (Ty.dflt Y44))])) y27.1.1 y27.1.2.1 y27.1.2.2)))) (cond (y27.2 == (5 : Int)) (gd (0 ≤ y3.2 ∧ y3.2 ≤ (a1.length : Int)) (F43_j0 N (a1.take y3.2.toNat) y27.1.1 y27.1.2.1 y27.1.2.2)) (cond (y27.2 == (6 : Int)) (gd (InR y3.2 a1.length) (gd (0 ≤ y3.2 ∧ y3.2.toNat < a1.length ∧ ((a1.getD y3.2.toNat (Ty.dflt Y44)).2.2.2.2.2.2).length + 1 ≤ lim (.int .i64)) (F43_j0 N (a1.set y3.2.toNat ((a1.getD y3.2.toNat (Ty.dflt Y44)).1, ((a1.getD y3.2.toNat (Ty.dflt Y44)).2.1, ((a1.getD y3.2.toNat (Ty.dflt Y44)).2.2.1, ((a1.getD y3.2.toNat (Ty.dflt Y44)).2.2.2.1, ((a1.getD y3.2.toNat (Ty.dflt Y44)).2.2.2.2.1, ((a1.getD y3.2.toNat (Ty.dflt Y44)).2.2.2.2.2.1, (((a1.getD y3.2.toNat (Ty.dflt Y44)).2.2.2.2.2.2) ++ [(0 : Int)])))))))) y27.1.1 y27.1.2.1 y27.1.2.2))) (F43_j0 N a1 y27.1.1 y27.1.2.1 y27.1.2.2)))))))))
theorem ok43 N a0 a1 {r} (h : F43 N a0 a1 = some r) : ConM prog 43 [bx (lv Y58 a0) 59, ar 0 Y44 a1 .dp] [.lf (.ptr 0 0 0 0), hh 1] [.lf (.own Y44 r.2 .tp)] [bx (lv Y58 r.1) 59, none] := by
 refine ⟨enters_of func43 rfl (by decide), HM.intro [.lf (.own Y44 .tp)] K func43 rfl (Nat.le_of_ble_eq_true rfl) (Nat.le_of_ble_eq_true rfl) fun w0 E0 ht => ?_⟩
 unfold F43 at h
 show VW _ _ _ _ _ (retM _ _ _ _ _) _
 refine nR K (tn 1) <| sq <| sq <| VW.region <| nG K 1 (tn 1) ?_
 obtain⟨y2,hy,h⟩:=aS h
 refine VO.callM [0] [.r, .t (.int .i64)] (d := some 7) (by kernel_rfl) (by kernel_rfl) (ok36 N _ _ hy) (by kernel_rfl) <| nG K 2 (tn 2) ?_
 refine spC 9 h ?_ ?_<;>intro h
 ·refine nN K (tn 4) ?_
  refine VW.cond (b := true) (by kernel_rfl) (fun _ => ?_) (fun h' => nomatch h')
  refine nR K (tn 2) ?_
  replace h := Option.some.inj h
  subst h
  refine VW.ghl [.wk 1, .ren [4, 65536] [0, 100001, 1]] (VW.ret ?_)
  exact ⟨[some 2], by kernel_rfl, by kernel_rfl, by kernel_rfl⟩
 refine nN K (tn 4) ?_
 refine cnd h ?_ ?_<;>intro h
 ·refine nR K (tn 2) ?_
  replace h := Option.some.inj h
  subst h
  refine VW.ghl [.wk 1, .ren [4, 65536] [0, 100001, 1]] (VW.ret ?_)
  exact ⟨[some 2], by kernel_rfl, by kernel_rfl, by kernel_rfl⟩
 refine VW.skip <| sq <| VW.region <| nG K 3 (tn 3) ?_
 obtain⟨y3,hy,h⟩:=aS h
 refine VO.callM [0] [.r, .t (.int .i64)] (d := some 18) (by kernel_rfl) (by kernel_rfl) (ok69 N _ _ hy) (by kernel_rfl) <| nN K (tn 1) ?_
 refine VW.join (fun s => ∃ x22 x23 x24 x25, s = ⟨[(1, hh 0), (65536, .lf (.ptr 1 0 0 0))], [ar 0 Y44 x22 .tp, bx [.v (.sl (.int .u8)) x23, zi x24, zi x25] 59]⟩ ∧ F43_j0 N x22 x23 x24 x25 = some r) ?_ ?_
 ·refine sq <| VW.region <| nG K 1 (tn 1) ?_
  obtain⟨y27,hy,h⟩:=aS h
  refine VO.callM [0] [.r, .t (.int .i64)] (d := some 20) (by kernel_rfl) (by kernel_rfl) (ok69 N _ _ hy) (by kernel_rfl) <| nN K (tn 0) <| VW.block <| nR K (tn 2) ?_
  refine cnd h ?_ ?_<;>intro h
  ·refine VW.region <| nG K 3 (tn 3) ?_
   obtain⟨y28,hy,h⟩:=aS h
   refine VO.callM [0] [.r, .t (.int .i64)] (d := some 26) (by kernel_rfl) (by kernel_rfl) (ok69 N _ _ hy) (by kernel_rfl) ?_
   obtain⟨g29,h⟩:=gS h
   obtain⟨g30,h⟩:=gS h
   refine nN K (pu 1 (an g29 (pu 1 (an g30 (tn 0))))) ?_
   exact arv [.wk 1, .ren [1, 65536] [1, 0]] ⟨(a1.set y3.2.toNat ((wr (y28.2 - (1 : Int))), ((a1.getD y3.2.toNat D44).2.1, ((a1.getD y3.2.toNat D44).2.2.1, ((a1.getD y3.2.toNat D44).2.2.2.1, ((a1.getD y3.2.toNat D44).2.2.2.2.1, ((a1.getD y3.2.toNat D44).2.2.2.2.2.1, (a1.getD y3.2.toNat D44).2.2.2.2.2.2))))))), y28.1.1, y28.1.2.1, y28.1.2.2, rfl, h⟩
  refine nR K (tn 2) ?_
  refine cnd h ?_ ?_<;>intro h
  ·refine VW.region <| nG K 4 (tn 4) ?_
   obtain⟨y31,hy,h⟩:=aS h
   refine VO.ghl [.frz 2] <| VO.callM [0] [.r, .t (.sl (.int .i64))] (d := some 36) (by kernel_rfl) (by kernel_rfl) (ok76 N _ _ hy) (by kernel_rfl) ?_
   obtain⟨g32,h⟩:=gS h
   obtain⟨g33,h⟩:=gS h
   refine nN K (an g32 (pu 1 (an g33 (tn 0)))) ?_
   exact arv [.wk 1, .ren [1, 65536] [1, 0]] ⟨(a1.set y3.2.toNat ((a1.getD y3.2.toNat D44).1, ((a1.getD y3.2.toNat D44).2.1, (y31.2, ((a1.getD y3.2.toNat D44).2.2.2.1, ((a1.getD y3.2.toNat D44).2.2.2.2.1, ((a1.getD y3.2.toNat D44).2.2.2.2.2.1, (a1.getD y3.2.toNat D44).2.2.2.2.2.2))))))), y31.1.1, y31.1.2.1, y31.1.2.2, rfl, h⟩
  refine nR K (tn 2) ?_
  refine cnd h ?_ ?_<;>intro h
  ·refine VW.region <| nG K 4 (tn 4) ?_
   obtain⟨y34,hy,h⟩:=aS h
   refine VO.ghl [.frz 2] <| VO.callM [0] [.r, .t (.sl (.int .i64))] (d := some 45) (by kernel_rfl) (by kernel_rfl) (ok76 N _ _ hy) (by kernel_rfl) ?_
   obtain⟨g35,h⟩:=gS h
   obtain⟨g36,h⟩:=gS h
   refine nN K (an g35 (pu 1 (an g36 (tn 0)))) ?_
   exact arv [.wk 1, .ren [1, 65536] [1, 0]] ⟨(a1.set y3.2.toNat ((a1.getD y3.2.toNat D44).1, ((a1.getD y3.2.toNat D44).2.1, ((a1.getD y3.2.toNat D44).2.2.1, ((a1.getD y3.2.toNat D44).2.2.2.1, (y34.2, ((a1.getD y3.2.toNat D44).2.2.2.2.2.1, (a1.getD y3.2.toNat D44).2.2.2.2.2.2))))))), y34.1.1, y34.1.2.1, y34.1.2.2, rfl, h⟩
  refine nR K (tn 2) ?_
  refine cnd h ?_ ?_<;>intro h
  ·obtain⟨g37,h⟩:=gS h
   obtain⟨g38,h⟩:=gS h
   refine nE K (pu 2 (an g37 (pu 1 (an g38 (tn 0))))) ?_
   exact arv [.wk 1, .ren [1, 65536] [1, 0]] ⟨(a1.set y3.2.toNat ((a1.getD y3.2.toNat D44).1, ((a1.getD y3.2.toNat D44).2.1, ((a1.getD y3.2.toNat D44).2.2.1, ((a1.getD y3.2.toNat D44).2.2.2.1, ((a1.getD y3.2.toNat D44).2.2.2.2.1, (true, (a1.getD y3.2.toNat D44).2.2.2.2.2.2))))))), y27.1.1, y27.1.2.1, y27.1.2.2, rfl, h⟩
  refine nR K (tn 2) ?_
  refine cnd h ?_ ?_<;>intro h
  ·refine VW.region ?_
   obtain⟨g39,h⟩:=gS h
   refine sG K 4 [56, 59, 65536] [1, 0] ⟨[(56, hh 0), (59, .lf (.ptr 0 0 y3.2.toNat 0)), (65536, .lf (.ptr 1 0 0 0))], [ar 0 Y44 a1 .dp, bx (lv Y58 y27.1) 59]⟩ (pu 3 (an g39 (tn 0))) <| VO.ghl [.wk 0] ?_
   obtain⟨g40,h⟩:=gS h
   obtain⟨g41,h⟩:=gS h
   refine nN K (an g40 (pu 1 (an g41 (tn 1)))) ?_
   exact arv [.ren [1, 65536] [0, 1]] ⟨(a1 ++ ([(a1.getD y3.2.toNat D44)])), y27.1.1, y27.1.2.1, y27.1.2.2, rfl, h⟩
  refine sR K [1, 5, 20, 63, 65536] [1, 0] ⟨[(1, hh 0), (5, I y3.2), (20, I y27.2), (63, B (y27.2 == (5 : Int))), (65536, .lf (.ptr 1 0 0 0))], [ar 0 Y44 a1 .dp, bx (lv Y58 y27.1) 59]⟩ (tn 2) ?_
  refine cnd h ?_ ?_<;>intro h
  ·obtain⟨g42,h⟩:=gS h
   refine nE K (pu 2 (an g42 (tn 1))) ?_
   exact arv [.shr 1, .wk 0, .ren [1, 65536] [0, 1]] ⟨(a1.take y3.2.toNat), y27.1.1, y27.1.2.1, y27.1.2.2, rfl, h⟩
  refine nR K (tn 2) ?_
  refine cnd h ?_ ?_<;>intro h
  ·refine VW.region ?_
   obtain⟨g43,h⟩:=gS h
   refine nG K 6 (pu 4 (an g43 (tn 1))) ?_
   obtain⟨g44,h⟩:=gS h
   refine VO.colApp (d1 := 76) (d2 := 77) (d3 := 78) (d4 := 79) (d5 := 80) (id := 0) (cur := 0) (i := y3.2.toNat) (j := 6) (z := y3.2) (c := (0 : Int)) (kk := .i64) (k := .i64) (e := Y44) (xs := a1) (ys := ((a1.getD y3.2.toNat D44).2.2.2.2.2.2)) (x' := ((a1.getD y3.2.toNat D44).1, ((a1.getD y3.2.toNat D44).2.1, ((a1.getD y3.2.toNat D44).2.2.1, ((a1.getD y3.2.toNat D44).2.2.2.1, ((a1.getD y3.2.toNat D44).2.2.2.2.1, ((a1.getD y3.2.toNat D44).2.2.2.2.2.1, (((a1.getD y3.2.toNat D44).2.2.2.2.2.2) ++ [(0 : Int)])))))))) K ⟨rfl, rfl, rfl⟩ ⟨rfl, rfl, rfl⟩ rfl ⟨rfl, rfl, rfl⟩ ⟨rfl, rfl, rfl⟩ ⟨rfl, rfl, rfl⟩ ⟨rfl, rfl, rfl⟩ ⟨rfl, rfl, rfl⟩ (by kernel_rfl) rfl (by kernel_rfl) (by kernel_rfl) (by kernel_rfl) (by kernel_rfl) (by kernel_rfl) (by kernel_rfl) (by kernel_rfl) (by kernel_rfl) ⟨g44.1, rfl⟩ g44.2 ?_
   refine sN K [1, 65536] [0, 1] ⟨[(1, hh 0), (65536, .lf (.ptr 1 0 0 0))], [ar 0 Y44 (a1.set y3.2.toNat ((a1.getD y3.2.toNat D44).1, ((a1.getD y3.2.toNat D44).2.1, ((a1.getD y3.2.toNat D44).2.2.1, ((a1.getD y3.2.toNat D44).2.2.2.1, ((a1.getD y3.2.toNat D44).2.2.2.2.1, ((a1.getD y3.2.toNat D44).2.2.2.2.2.1, (((a1.getD y3.2.toNat D44).2.2.2.2.2.2) ++ [(0 : Int)])))))))) .dp, bx (lv Y58 y27.1) 59]⟩ (tn 0) ?_
   exact arv [.wk 0, .ren [1, 65536] [0, 1]] ⟨(a1.set y3.2.toNat ((a1.getD y3.2.toNat D44).1, ((a1.getD y3.2.toNat D44).2.1, ((a1.getD y3.2.toNat D44).2.2.1, ((a1.getD y3.2.toNat D44).2.2.2.1, ((a1.getD y3.2.toNat D44).2.2.2.2.1, ((a1.getD y3.2.toNat D44).2.2.2.2.2.1, (((a1.getD y3.2.toNat D44).2.2.2.2.2.2) ++ [(0 : Int)])))))))), y27.1.1, y27.1.2.1, y27.1.2.2, rfl, h⟩
  refine VW.skip ?_
  exact arv [.wk 0, .ren [1, 65536] [0, 1]] ⟨a1, y27.1.1, y27.1.2.1, y27.1.2.2, rfl, h⟩
 rintro s ⟨x22, x23, x24, x25, rfl, h⟩
 unfold F43_j0 at h
 refine nR K (tn 2) ?_
 replace h := Option.some.inj h
 subst h
 refine VW.ghl [.ren [4, 65536] [1, 100001, 0]] (VW.ret ?_)
 exact ⟨[some 2], by kernel_rfl, by kernel_rfl, by kernel_rfl⟩
def F17_j0 (N : Nat) (x169 : (List Int)) (x170 : Int) (x171 : Int) (x172 : (List Z44)) : Option (Z58 × (List Z44)) :=
  andO (F43 N (x169, (x170, x171)) x172) fun y173 => some (y173.1, y173.2)
def F17_j1 (N : Nat) (nx289 : (List Int) → Int → Int → (List Z44) → Int → Int → Option (Z58 × (List Z44))) (x236 : Int) (x313 : (List Int)) (x314 : Int) (x315 : Int) (x316 : (List Z44)) (x317 : Int) : Option (Z58 × (List Z44)) :=
  nx289 x313 x314 x315 x316 x317 (IntKind.i64.wrap (x236 + (1 : Int)))
def F17_l0_b (N : Nat) (nx289 : (List Int) → Int → Int → (List Z44) → Int → Int → Option (Z58 × (List Z44))) (x231 : (List Int)) (x232 : Int) (x233 : Int) (x234 : (List Z44)) (x235 : Int) (x236 : Int) : Option (Z58 × (List Z44)) :=
  cond (decide (x236 < (x234.length : Int))) (gd (InR x236 x234.length) (gd (x236.toNat < x234.length) (cond (((x234.getD x236.toNat (Ty.dflt Y44)).1) == (1 : Int)) (gd (InR x236 x234.length) (gd (x236.toNat < x234.length) (cond (((x234.getD x236.toNat (Ty.dflt Y44)).2.2.2.1) != (3 : Int)) (andO (F36 N (x231, (x232, x233)) (3 : Int)) fun y323 => cond y323.2 (gd (InR x236 x234.length) (gd (x236.toNat < x234.length) (gd (InR x236 (x234.set x236.toNat ((x234.getD x236.toNat (Ty.dflt Y44)).1, ((x234.getD x236.toNat (Ty.dflt Y44)).2.1, ((x234.getD x236.toNat (Ty.dflt Y44)).2.2.1, ((x234.getD x236.toNat (Ty.dflt Y44)).2.2.2.1, ((x234.getD x236.toNat (Ty.dflt Y44)).2.2.2.2.1, (true, (x234.getD x236.toNat (Ty.dflt Y44)).2.2.2.2.2.2))))))).length) (gd (x236.toNat < (x234.set x236.toNat ((x234.getD x236.toNat (Ty.dflt Y44)).1, ((x234.getD x236.toNat (Ty.dflt Y44)).2.1, ((x234.getD x236.toNat (Ty.dflt Y44)).2.2.1, ((x234.getD x236.toNat (Ty.dflt Y44)).2.2.2.1, ((x234.getD x236.toNat (Ty.dflt Y44)).2.2.2.2.1, (true, (x234.getD x236.toNat (Ty.dflt Y44)).2.2.2.2.2.2))))))).length) (F17_j1 N nx289 x236 y323.1.1 y323.1.2.1 y323.1.2.2 (x234.set x236.toNat ((x234.getD x236.toNat (Ty.dflt Y44)).1, ((x234.getD x236.toNat (Ty.dflt Y44)).2.1, ((x234.getD x236.toNat (Ty.dflt Y44)).2.2.1, ((x234.getD x236.toNat (Ty.dflt Y44)).2.2.2.1, (x235, (true, (x234.getD x236.toNat (Ty.dflt Y44)).2.2.2.2.2.2))))))) (IntKind.i64.wrap (x235 + (1 : Int)))))))) (F17_j1 N nx289 x236 y323.1.1 y323.1.2.1 y323.1.2.2 x234 x235)) (gd (InR x236 x234.length) (gd (x236.toNat < x234.length) (cond (((x234.getD x236.toNat (Ty.dflt Y44)).1) == (6 : Int)) (andO (F36 N (x231, (x232, x233)) (3 : Int)) fun y330 => cond y330.2 (gd (InR x236 x234.length) (gd (x236.toNat < x234.length) (gd (InR x236 (x234.set x236.toNat ((x234.getD x236.toNat (Ty.dflt Y44)).1, ((x234.getD x236.toNat (Ty.dflt Y44)).2.1, ((x234.getD x236.toNat (Ty.dflt Y44)).2.2.1, ((x234.getD x236.toNat (Ty.dflt Y44)).2.2.2.1, ((x234.getD x236.toNat (Ty.dflt Y44)).2.2.2.2.1, (true, (x234.getD x236.toNat (Ty.dflt Y44)).2.2.2.2.2.2))))))).length) (gd (x236.toNat < (x234.set x236.toNat ((x234.getD x236.toNat (Ty.dflt Y44)).1, ((x234.getD x236.toNat (Ty.dflt Y44)).2.1, ((x234.getD x236.toNat (Ty.dflt Y44)).2.2.1, ((x234.getD x236.toNat (Ty.dflt Y44)).2.2.2.1, ((x234.getD x236.toNat (Ty.dflt Y44)).2.2.2.2.1, (true, (x234.getD x236.toNat (Ty.dflt Y44)).2.2.2.2.2.2))))))).length) (F17_j1 N nx289 x236 y330.1.1 y330.1.2.1 y330.1.2.2 (x234.set x236.toNat ((x234.getD x236.toNat (Ty.dflt Y44)).1, ((x234.getD x236.toNat (Ty.dflt Y44)).2.1, ((x234.getD x236.toNat (Ty.dflt Y44)).2.2.1, ((x234.getD x236.toNat (Ty.dflt Y44)).2.2.2.1, (x235, (true, (x234.getD x236.toNat (Ty.dflt Y44)).2.2.2.2.2.2))))))) (IntKind.i64.wrap (x235 + (1 : Int)))))))) (F17_j1 N nx289 x236 y330.1.1 y330.1.2.1 y330.1.2.2 x234 x235)) (F17_j1 N nx289 x236 x231 x232 x233 x234 x235))))))) (gd (InR x236 x234.length) (gd (x236.toNat < x234.length) (cond (((x234.getD x236.toNat (Ty.dflt Y44)).1) == (6 : Int)) (andO (F36 N (x231, (x232, x233)) (3 : Int)) fun y337 => cond y337.2 (gd (InR x236 x234.length) (gd (x236.toNat < x234.length) (gd (InR x236 (x234.set x236.toNat ((x234.getD x236.toNat (Ty.dflt Y44)).1, ((x234.getD x236.toNat (Ty.dflt Y44)).2.1, ((x234.getD x236.toNat (Ty.dflt Y44)).2.2.1, ((x234.getD x236.toNat (Ty.dflt Y44)).2.2.2.1, ((x234.getD x236.toNat (Ty.dflt Y44)).2.2.2.2.1, (true, (x234.getD x236.toNat (Ty.dflt Y44)).2.2.2.2.2.2))))))).length) (gd (x236.toNat < (x234.set x236.toNat ((x234.getD x236.toNat (Ty.dflt Y44)).1, ((x234.getD x236.toNat (Ty.dflt Y44)).2.1, ((x234.getD x236.toNat (Ty.dflt Y44)).2.2.1, ((x234.getD x236.toNat (Ty.dflt Y44)).2.2.2.1, ((x234.getD x236.toNat (Ty.dflt Y44)).2.2.2.2.1, (true, (x234.getD x236.toNat (Ty.dflt Y44)).2.2.2.2.2.2))))))).length) (F17_j1 N nx289 x236 y337.1.1 y337.1.2.1 y337.1.2.2 (x234.set x236.toNat ((x234.getD x236.toNat (Ty.dflt Y44)).1, ((x234.getD x236.toNat (Ty.dflt Y44)).2.1, ((x234.getD x236.toNat (Ty.dflt Y44)).2.2.1, ((x234.getD x236.toNat (Ty.dflt Y44)).2.2.2.1, (x235, (true, (x234.getD x236.toNat (Ty.dflt Y44)).2.2.2.2.2.2))))))) (IntKind.i64.wrap (x235 + (1 : Int)))))))) (F17_j1 N nx289 x236 y337.1.1 y337.1.2.1 y337.1.2.2 x234 x235)) (F17_j1 N nx289 x236 x231 x232 x233 x234 x235))))))) (F17_j0 N x231 x232 x233 x234)
def F17_l0 (N : Nat) := loopF (F17_l0_b N) (fun _ _ _ _ _ _ => none)
theorem F17_l0_s N {k} (hk : 0 < k) x231 x232 x233 x234 x235 x236 : F17_l0 N k x231 x232 x233 x234 x235 x236 = F17_l0_b N (F17_l0 N (k - 1)) x231 x232 x233 x234 x235 x236 := by cases k;cases hk;rfl
def F17 (N : Nat) (a0 : Z58) (a1 : (List Int)) : Option (Z58 × (List Z44)) :=
  andO (F42 N a0 a1) fun y1 => F17_l0 N N y1.1.1 y1.1.2.1 y1.1.2.2 y1.2 (0 : Int) (0 : Int)
theorem ok17 N a0 a1 {r} (h : F17 N a0 a1 = some r) : ConM prog 17 [bx (lv Y58 a0) 59] [.lf (.ptr 0 0 0 0), Vv (.sl (.int .u8)) a1] [.lf (.own Y44 r.2 .tp)] [bx (lv Y58 r.1) 59] := by
 refine ⟨enters_of func17 rfl (by decide), HM.intro [.lf (.own Y44 .tp)] K func17 rfl (Nat.le_of_ble_eq_true rfl) (Nat.le_of_ble_eq_true rfl) fun w0 E0 ht => ?_⟩
 unfold F17 at h
 show VW _ _ _ _ _ (retM _ _ _ _ _) _
 refine nR K (tn 1) <| sq <| VW.region <| nG K 2 (tn 2) ?_
 obtain⟨y1,hy,h⟩:=aS h
 refine VO.callM [0] [.r, .t (.sl (.int .u8))] (d := some 10) (by kernel_rfl) (by kernel_rfl) (ok42 N _ _ hy) (by kernel_rfl) <| nN K (tn 1) <| nR K (tn 1) ?_
 refine VW.join (fun s => ∃ x169 x170 x171 x172, s = ⟨[(0, .lf (.ptr 0 0 0 0)), (5, hh 1), (65536, .lf (.ptr 0 0 0 0))], [bx [.v (.sl (.int .u8)) x169, zi x170, zi x171] 59, ar 0 Y44 x172 .dp]⟩ ∧ F17_j0 N x169 x170 x171 x172 = some r) ?_ ?_
 ·refine nR K (tn 1) <| VW.block <| lop (fun k s => ∃ x231 x232 x233 x234 x235 x236, s = ⟨[(0, .lf (.ptr 0 0 0 0)), (5, hh 1), (6, I x235), (7, I x236), (65536, .lf (.ptr 0 0 0 0))], [bx [.v (.sl (.int .u8)) x231, zi x232, zi x233] 59, ar 0 Y44 x234 .dp]⟩ ∧ F17_l0 N k x231 x232 x233 x234 x235 x236 = some r) N [.ren [0, 5, 6, 7, 65536] [0, 1]] ⟨y1.1.1, y1.1.2.1, y1.1.2.2, y1.2, (0 : Int), (0 : Int), rfl, h⟩ ?_
  rintro k289 s ⟨x231, x232, x233, x234, x235, x236, rfl, h⟩
  cases k289 with
  | zero => cases show none = some r from h
  | succ k289 =>
   replace h : F17_l0_b N (F17_l0 N k289) x231 x232 x233 x234 x235 x236 = some r := h
   unfold F17_l0_b at h
   refine sq <| nR K (tn 4) ?_
   refine cnd h ?_ ?_<;>intro h
   ·refine VW.skip ?_
    refine VW.join (fun s => ∃ x313 x314 x315 x316 x317, s = ⟨[(0, .lf (.ptr 0 0 0 0)), (5, hh 1), (6, I x317), (7, I x236), (65536, .lf (.ptr 0 0 0 0))], [bx [.v (.sl (.int .u8)) x313, zi x314, zi x315] 59, ar 0 Y44 x316 .dp]⟩ ∧ F17_j1 N (F17_l0 N k289) x236 x313 x314 x315 x316 x317 = some r) ?_ ?_
    ·refine VW.block <| sq <| VW.region ?_
     obtain⟨g319,h⟩:=gS h
     obtain⟨g320,h⟩:=gS h
     refine nG K 7 (pu 2 (an g319 (pu 1 (an g320 (tn 2))))) ?_
     refine spC 23 h ?_ ?_<;>intro h
     ·obtain⟨g321,h⟩:=gS h
      obtain⟨g322,h⟩:=gS h
      refine nG K 8 (pu 2 (an g321 (pu 1 (an g322 (tn 3))))) ?_
      refine spC 31 h ?_ ?_<;>intro h
      ·refine nG K 9 (tn 9) <| VO.on (j := 22) (want := true) (d := 39) (b := true) rfl rfl rfl (by kernel_rfl) rfl ?_
       obtain⟨y323,hy,h⟩:=aS h
       refine VO.callM [0] [.r, .t (.int .i64)] (d := some 41) (by kernel_rfl) (by kernel_rfl) (ok36 N _ _ hy) (by kernel_rfl) <| nN K (tn 1) ?_
       refine cnd h ?_ ?_<;>intro h
       ·obtain⟨g324,h⟩:=gS h
        obtain⟨g325,h⟩:=gS h
        refine nR K (pu 2 (an g324 (pu 1 (an g325 (tn 0))))) <| sq <| VW.region ?_
        obtain⟨g326,h⟩:=gS h
        obtain⟨g327,h⟩:=gS h
        refine sG K 6 [0, 5, 6, 7, 65536] [0, 1] ⟨[(0, .lf (.ptr 0 0 0 0)), (5, hh 1), (6, I x235), (7, I x236), (65536, .lf (.ptr 0 0 0 0))], [bx (lv Y58 y323.1) 59, ar 0 Y44 ((x234.set x236.toNat ((x234.getD x236.toNat D44).1, ((x234.getD x236.toNat D44).2.1, ((x234.getD x236.toNat D44).2.2.1, ((x234.getD x236.toNat D44).2.2.2.1, ((x234.getD x236.toNat D44).2.2.2.2.1, (true, (x234.getD x236.toNat D44).2.2.2.2.2.2))))))).set x236.toNat (((x234.set x236.toNat ((x234.getD x236.toNat D44).1, ((x234.getD x236.toNat D44).2.1, ((x234.getD x236.toNat D44).2.2.1, ((x234.getD x236.toNat D44).2.2.2.1, ((x234.getD x236.toNat D44).2.2.2.2.1, (true, (x234.getD x236.toNat D44).2.2.2.2.2.2))))))).getD x236.toNat D44).1, (((x234.set x236.toNat ((x234.getD x236.toNat D44).1, ((x234.getD x236.toNat D44).2.1, ((x234.getD x236.toNat D44).2.2.1, ((x234.getD x236.toNat D44).2.2.2.1, ((x234.getD x236.toNat D44).2.2.2.2.1, (true, (x234.getD x236.toNat D44).2.2.2.2.2.2))))))).getD x236.toNat D44).2.1, (((x234.set x236.toNat ((x234.getD x236.toNat D44).1, ((x234.getD x236.toNat D44).2.1, ((x234.getD x236.toNat D44).2.2.1, ((x234.getD x236.toNat D44).2.2.2.1, ((x234.getD x236.toNat D44).2.2.2.2.1, (true, (x234.getD x236.toNat D44).2.2.2.2.2.2))))))).getD x236.toNat D44).2.2.1, (((x234.set x236.toNat ((x234.getD x236.toNat D44).1, ((x234.getD x236.toNat D44).2.1, ((x234.getD x236.toNat D44).2.2.1, ((x234.getD x236.toNat D44).2.2.2.1, ((x234.getD x236.toNat D44).2.2.2.2.1, (true, (x234.getD x236.toNat D44).2.2.2.2.2.2))))))).getD x236.toNat D44).2.2.2.1, (x235, (((x234.set x236.toNat ((x234.getD x236.toNat D44).1, ((x234.getD x236.toNat D44).2.1, ((x234.getD x236.toNat D44).2.2.1, ((x234.getD x236.toNat D44).2.2.2.1, ((x234.getD x236.toNat D44).2.2.2.2.1, (true, (x234.getD x236.toNat D44).2.2.2.2.2.2))))))).getD x236.toNat D44).2.2.2.2.2.1, ((x234.set x236.toNat ((x234.getD x236.toNat D44).1, ((x234.getD x236.toNat D44).2.1, ((x234.getD x236.toNat D44).2.2.1, ((x234.getD x236.toNat D44).2.2.2.1, ((x234.getD x236.toNat D44).2.2.2.2.1, (true, (x234.getD x236.toNat D44).2.2.2.2.2.2))))))).getD x236.toNat D44).2.2.2.2.2.2))))))) .dp]⟩ (pu 3 (an g326 (pu 1 (an g327 (tn 0))))) ?_
        rw [show ((x234.set x236.toNat ((x234.getD x236.toNat D44).1, ((x234.getD x236.toNat D44).2.1, ((x234.getD x236.toNat D44).2.2.1, ((x234.getD x236.toNat D44).2.2.2.1, ((x234.getD x236.toNat D44).2.2.2.2.1, (true, (x234.getD x236.toNat D44).2.2.2.2.2.2))))))).set x236.toNat (((x234.set x236.toNat ((x234.getD x236.toNat D44).1, ((x234.getD x236.toNat D44).2.1, ((x234.getD x236.toNat D44).2.2.1, ((x234.getD x236.toNat D44).2.2.2.1, ((x234.getD x236.toNat D44).2.2.2.2.1, (true, (x234.getD x236.toNat D44).2.2.2.2.2.2))))))).getD x236.toNat D44).1, (((x234.set x236.toNat ((x234.getD x236.toNat D44).1, ((x234.getD x236.toNat D44).2.1, ((x234.getD x236.toNat D44).2.2.1, ((x234.getD x236.toNat D44).2.2.2.1, ((x234.getD x236.toNat D44).2.2.2.2.1, (true, (x234.getD x236.toNat D44).2.2.2.2.2.2))))))).getD x236.toNat D44).2.1, (((x234.set x236.toNat ((x234.getD x236.toNat D44).1, ((x234.getD x236.toNat D44).2.1, ((x234.getD x236.toNat D44).2.2.1, ((x234.getD x236.toNat D44).2.2.2.1, ((x234.getD x236.toNat D44).2.2.2.2.1, (true, (x234.getD x236.toNat D44).2.2.2.2.2.2))))))).getD x236.toNat D44).2.2.1, (((x234.set x236.toNat ((x234.getD x236.toNat D44).1, ((x234.getD x236.toNat D44).2.1, ((x234.getD x236.toNat D44).2.2.1, ((x234.getD x236.toNat D44).2.2.2.1, ((x234.getD x236.toNat D44).2.2.2.2.1, (true, (x234.getD x236.toNat D44).2.2.2.2.2.2))))))).getD x236.toNat D44).2.2.2.1, (x235, (((x234.set x236.toNat ((x234.getD x236.toNat D44).1, ((x234.getD x236.toNat D44).2.1, ((x234.getD x236.toNat D44).2.2.1, ((x234.getD x236.toNat D44).2.2.2.1, ((x234.getD x236.toNat D44).2.2.2.2.1, (true, (x234.getD x236.toNat D44).2.2.2.2.2.2))))))).getD x236.toNat D44).2.2.2.2.2.1, ((x234.set x236.toNat ((x234.getD x236.toNat D44).1, ((x234.getD x236.toNat D44).2.1, ((x234.getD x236.toNat D44).2.2.1, ((x234.getD x236.toNat D44).2.2.2.1, ((x234.getD x236.toNat D44).2.2.2.2.1, (true, (x234.getD x236.toNat D44).2.2.2.2.2.2))))))).getD x236.toNat D44).2.2.2.2.2.2))))))) = (x234.set x236.toNat ((x234.getD x236.toNat D44).1, ((x234.getD x236.toNat D44).2.1, ((x234.getD x236.toNat D44).2.2.1, ((x234.getD x236.toNat D44).2.2.2.1, (x235, (true, (x234.getD x236.toNat D44).2.2.2.2.2.2))))))) from set_upd x234 x236.toNat ((x234.getD x236.toNat D44).1, ((x234.getD x236.toNat D44).2.1, ((x234.getD x236.toNat D44).2.2.1, ((x234.getD x236.toNat D44).2.2.2.1, ((x234.getD x236.toNat D44).2.2.2.2.1, (true, (x234.getD x236.toNat D44).2.2.2.2.2.2)))))) D44 (fun z => (z.1, (z.2.1, (z.2.2.1, (z.2.2.2.1, (x235, (z.2.2.2.2.2.1, z.2.2.2.2.2.2))))))) (by first | (simp; done) | simpa using g327)]
        refine sN K [0, 5, 6, 7, 65536] [0, 1] ⟨[(0, .lf (.ptr 0 0 0 0)), (5, hh 1), (6, I x235), (7, I x236), (65536, .lf (.ptr 0 0 0 0))], [bx (lv Y58 y323.1) 59, ar 0 Y44 (x234.set x236.toNat ((x234.getD x236.toNat D44).1, ((x234.getD x236.toNat D44).2.1, ((x234.getD x236.toNat D44).2.2.1, ((x234.getD x236.toNat D44).2.2.2.1, (x235, (true, (x234.getD x236.toNat D44).2.2.2.2.2.2))))))) .dp]⟩ (tn 0) ?_
        refine nE K (tn 3) ?_
        exact arv [.ren [0, 5, 6, 7, 65536] [0, 1]] ⟨y323.1.1, y323.1.2.1, y323.1.2.2, (x234.set x236.toNat ((x234.getD x236.toNat D44).1, ((x234.getD x236.toNat D44).2.1, ((x234.getD x236.toNat D44).2.2.1, ((x234.getD x236.toNat D44).2.2.2.1, (x235, (true, (x234.getD x236.toNat D44).2.2.2.2.2.2))))))), (wr (x235 + (1 : Int))), rfl, h⟩
       refine VW.skip ?_
       exact arv [.ren [0, 5, 6, 7, 65536] [0, 1]] ⟨y323.1.1, y323.1.2.1, y323.1.2.2, x234, x235, rfl, h⟩
      obtain⟨g328,h⟩:=gS h
      obtain⟨g329,h⟩:=gS h
      refine nG K 8 (pu 2 (an g328 (pu 1 (an g329 (tn 3))))) ?_
      refine spC 39 h ?_ ?_<;>intro h
      ·refine nG K 1 (tn 1) <| VO.on (j := 22) (want := true) (d := 39) (b := true) rfl rfl rfl (by kernel_rfl) rfl ?_
       obtain⟨y330,hy,h⟩:=aS h
       refine VO.callM [0] [.r, .t (.int .i64)] (d := some 41) (by kernel_rfl) (by kernel_rfl) (ok36 N _ _ hy) (by kernel_rfl) <| nN K (tn 1) ?_
       refine cnd h ?_ ?_<;>intro h
       ·obtain⟨g331,h⟩:=gS h
        obtain⟨g332,h⟩:=gS h
        refine nR K (pu 2 (an g331 (pu 1 (an g332 (tn 0))))) <| sq <| VW.region ?_
        obtain⟨g333,h⟩:=gS h
        obtain⟨g334,h⟩:=gS h
        refine sG K 6 [0, 5, 6, 7, 65536] [0, 1] ⟨[(0, .lf (.ptr 0 0 0 0)), (5, hh 1), (6, I x235), (7, I x236), (65536, .lf (.ptr 0 0 0 0))], [bx (lv Y58 y330.1) 59, ar 0 Y44 ((x234.set x236.toNat ((x234.getD x236.toNat D44).1, ((x234.getD x236.toNat D44).2.1, ((x234.getD x236.toNat D44).2.2.1, ((x234.getD x236.toNat D44).2.2.2.1, ((x234.getD x236.toNat D44).2.2.2.2.1, (true, (x234.getD x236.toNat D44).2.2.2.2.2.2))))))).set x236.toNat (((x234.set x236.toNat ((x234.getD x236.toNat D44).1, ((x234.getD x236.toNat D44).2.1, ((x234.getD x236.toNat D44).2.2.1, ((x234.getD x236.toNat D44).2.2.2.1, ((x234.getD x236.toNat D44).2.2.2.2.1, (true, (x234.getD x236.toNat D44).2.2.2.2.2.2))))))).getD x236.toNat D44).1, (((x234.set x236.toNat ((x234.getD x236.toNat D44).1, ((x234.getD x236.toNat D44).2.1, ((x234.getD x236.toNat D44).2.2.1, ((x234.getD x236.toNat D44).2.2.2.1, ((x234.getD x236.toNat D44).2.2.2.2.1, (true, (x234.getD x236.toNat D44).2.2.2.2.2.2))))))).getD x236.toNat D44).2.1, (((x234.set x236.toNat ((x234.getD x236.toNat D44).1, ((x234.getD x236.toNat D44).2.1, ((x234.getD x236.toNat D44).2.2.1, ((x234.getD x236.toNat D44).2.2.2.1, ((x234.getD x236.toNat D44).2.2.2.2.1, (true, (x234.getD x236.toNat D44).2.2.2.2.2.2))))))).getD x236.toNat D44).2.2.1, (((x234.set x236.toNat ((x234.getD x236.toNat D44).1, ((x234.getD x236.toNat D44).2.1, ((x234.getD x236.toNat D44).2.2.1, ((x234.getD x236.toNat D44).2.2.2.1, ((x234.getD x236.toNat D44).2.2.2.2.1, (true, (x234.getD x236.toNat D44).2.2.2.2.2.2))))))).getD x236.toNat D44).2.2.2.1, (x235, (((x234.set x236.toNat ((x234.getD x236.toNat D44).1, ((x234.getD x236.toNat D44).2.1, ((x234.getD x236.toNat D44).2.2.1, ((x234.getD x236.toNat D44).2.2.2.1, ((x234.getD x236.toNat D44).2.2.2.2.1, (true, (x234.getD x236.toNat D44).2.2.2.2.2.2))))))).getD x236.toNat D44).2.2.2.2.2.1, ((x234.set x236.toNat ((x234.getD x236.toNat D44).1, ((x234.getD x236.toNat D44).2.1, ((x234.getD x236.toNat D44).2.2.1, ((x234.getD x236.toNat D44).2.2.2.1, ((x234.getD x236.toNat D44).2.2.2.2.1, (true, (x234.getD x236.toNat D44).2.2.2.2.2.2))))))).getD x236.toNat D44).2.2.2.2.2.2))))))) .dp]⟩ (pu 3 (an g333 (pu 1 (an g334 (tn 0))))) ?_
        rw [show ((x234.set x236.toNat ((x234.getD x236.toNat D44).1, ((x234.getD x236.toNat D44).2.1, ((x234.getD x236.toNat D44).2.2.1, ((x234.getD x236.toNat D44).2.2.2.1, ((x234.getD x236.toNat D44).2.2.2.2.1, (true, (x234.getD x236.toNat D44).2.2.2.2.2.2))))))).set x236.toNat (((x234.set x236.toNat ((x234.getD x236.toNat D44).1, ((x234.getD x236.toNat D44).2.1, ((x234.getD x236.toNat D44).2.2.1, ((x234.getD x236.toNat D44).2.2.2.1, ((x234.getD x236.toNat D44).2.2.2.2.1, (true, (x234.getD x236.toNat D44).2.2.2.2.2.2))))))).getD x236.toNat D44).1, (((x234.set x236.toNat ((x234.getD x236.toNat D44).1, ((x234.getD x236.toNat D44).2.1, ((x234.getD x236.toNat D44).2.2.1, ((x234.getD x236.toNat D44).2.2.2.1, ((x234.getD x236.toNat D44).2.2.2.2.1, (true, (x234.getD x236.toNat D44).2.2.2.2.2.2))))))).getD x236.toNat D44).2.1, (((x234.set x236.toNat ((x234.getD x236.toNat D44).1, ((x234.getD x236.toNat D44).2.1, ((x234.getD x236.toNat D44).2.2.1, ((x234.getD x236.toNat D44).2.2.2.1, ((x234.getD x236.toNat D44).2.2.2.2.1, (true, (x234.getD x236.toNat D44).2.2.2.2.2.2))))))).getD x236.toNat D44).2.2.1, (((x234.set x236.toNat ((x234.getD x236.toNat D44).1, ((x234.getD x236.toNat D44).2.1, ((x234.getD x236.toNat D44).2.2.1, ((x234.getD x236.toNat D44).2.2.2.1, ((x234.getD x236.toNat D44).2.2.2.2.1, (true, (x234.getD x236.toNat D44).2.2.2.2.2.2))))))).getD x236.toNat D44).2.2.2.1, (x235, (((x234.set x236.toNat ((x234.getD x236.toNat D44).1, ((x234.getD x236.toNat D44).2.1, ((x234.getD x236.toNat D44).2.2.1, ((x234.getD x236.toNat D44).2.2.2.1, ((x234.getD x236.toNat D44).2.2.2.2.1, (true, (x234.getD x236.toNat D44).2.2.2.2.2.2))))))).getD x236.toNat D44).2.2.2.2.2.1, ((x234.set x236.toNat ((x234.getD x236.toNat D44).1, ((x234.getD x236.toNat D44).2.1, ((x234.getD x236.toNat D44).2.2.1, ((x234.getD x236.toNat D44).2.2.2.1, ((x234.getD x236.toNat D44).2.2.2.2.1, (true, (x234.getD x236.toNat D44).2.2.2.2.2.2))))))).getD x236.toNat D44).2.2.2.2.2.2))))))) = (x234.set x236.toNat ((x234.getD x236.toNat D44).1, ((x234.getD x236.toNat D44).2.1, ((x234.getD x236.toNat D44).2.2.1, ((x234.getD x236.toNat D44).2.2.2.1, (x235, (true, (x234.getD x236.toNat D44).2.2.2.2.2.2))))))) from set_upd x234 x236.toNat ((x234.getD x236.toNat D44).1, ((x234.getD x236.toNat D44).2.1, ((x234.getD x236.toNat D44).2.2.1, ((x234.getD x236.toNat D44).2.2.2.1, ((x234.getD x236.toNat D44).2.2.2.2.1, (true, (x234.getD x236.toNat D44).2.2.2.2.2.2)))))) D44 (fun z => (z.1, (z.2.1, (z.2.2.1, (z.2.2.2.1, (x235, (z.2.2.2.2.2.1, z.2.2.2.2.2.2))))))) (by first | (simp; done) | simpa using g334)]
        refine sN K [0, 5, 6, 7, 65536] [0, 1] ⟨[(0, .lf (.ptr 0 0 0 0)), (5, hh 1), (6, I x235), (7, I x236), (65536, .lf (.ptr 0 0 0 0))], [bx (lv Y58 y330.1) 59, ar 0 Y44 (x234.set x236.toNat ((x234.getD x236.toNat D44).1, ((x234.getD x236.toNat D44).2.1, ((x234.getD x236.toNat D44).2.2.1, ((x234.getD x236.toNat D44).2.2.2.1, (x235, (true, (x234.getD x236.toNat D44).2.2.2.2.2.2))))))) .dp]⟩ (tn 0) ?_
        refine nE K (tn 3) ?_
        exact arv [.ren [0, 5, 6, 7, 65536] [0, 1]] ⟨y330.1.1, y330.1.2.1, y330.1.2.2, (x234.set x236.toNat ((x234.getD x236.toNat D44).1, ((x234.getD x236.toNat D44).2.1, ((x234.getD x236.toNat D44).2.2.1, ((x234.getD x236.toNat D44).2.2.2.1, (x235, (true, (x234.getD x236.toNat D44).2.2.2.2.2.2))))))), (wr (x235 + (1 : Int))), rfl, h⟩
       refine VW.skip ?_
       exact arv [.ren [0, 5, 6, 7, 65536] [0, 1]] ⟨y330.1.1, y330.1.2.1, y330.1.2.2, x234, x235, rfl, h⟩
      refine nN K (tn 3) ?_
      refine VW.cond (b := false) (by kernel_rfl) (fun h' => nomatch h') (fun _ => ?_)
      refine VW.skip ?_
      exact arv [.ren [0, 5, 6, 7, 65536] [0, 1]] ⟨x231, x232, x233, x234, x235, rfl, h⟩
     obtain⟨g335,h⟩:=gS h
     obtain⟨g336,h⟩:=gS h
     refine nG K 16 (pu 10 (an g335 (pu 1 (an g336 (tn 3))))) ?_
     refine spC 39 h ?_ ?_<;>intro h
     ·refine nG K 1 (tn 1) <| VO.on (j := 22) (want := true) (d := 39) (b := true) rfl rfl rfl (by kernel_rfl) rfl ?_
      obtain⟨y337,hy,h⟩:=aS h
      refine VO.callM [0] [.r, .t (.int .i64)] (d := some 41) (by kernel_rfl) (by kernel_rfl) (ok36 N _ _ hy) (by kernel_rfl) <| nN K (tn 1) ?_
      refine cnd h ?_ ?_<;>intro h
      ·obtain⟨g338,h⟩:=gS h
       obtain⟨g339,h⟩:=gS h
       refine nR K (pu 2 (an g338 (pu 1 (an g339 (tn 0))))) <| sq <| VW.region ?_
       obtain⟨g340,h⟩:=gS h
       obtain⟨g341,h⟩:=gS h
       refine sG K 6 [0, 5, 6, 7, 65536] [0, 1] ⟨[(0, .lf (.ptr 0 0 0 0)), (5, hh 1), (6, I x235), (7, I x236), (65536, .lf (.ptr 0 0 0 0))], [bx (lv Y58 y337.1) 59, ar 0 Y44 ((x234.set x236.toNat ((x234.getD x236.toNat D44).1, ((x234.getD x236.toNat D44).2.1, ((x234.getD x236.toNat D44).2.2.1, ((x234.getD x236.toNat D44).2.2.2.1, ((x234.getD x236.toNat D44).2.2.2.2.1, (true, (x234.getD x236.toNat D44).2.2.2.2.2.2))))))).set x236.toNat (((x234.set x236.toNat ((x234.getD x236.toNat D44).1, ((x234.getD x236.toNat D44).2.1, ((x234.getD x236.toNat D44).2.2.1, ((x234.getD x236.toNat D44).2.2.2.1, ((x234.getD x236.toNat D44).2.2.2.2.1, (true, (x234.getD x236.toNat D44).2.2.2.2.2.2))))))).getD x236.toNat D44).1, (((x234.set x236.toNat ((x234.getD x236.toNat D44).1, ((x234.getD x236.toNat D44).2.1, ((x234.getD x236.toNat D44).2.2.1, ((x234.getD x236.toNat D44).2.2.2.1, ((x234.getD x236.toNat D44).2.2.2.2.1, (true, (x234.getD x236.toNat D44).2.2.2.2.2.2))))))).getD x236.toNat D44).2.1, (((x234.set x236.toNat ((x234.getD x236.toNat D44).1, ((x234.getD x236.toNat D44).2.1, ((x234.getD x236.toNat D44).2.2.1, ((x234.getD x236.toNat D44).2.2.2.1, ((x234.getD x236.toNat D44).2.2.2.2.1, (true, (x234.getD x236.toNat D44).2.2.2.2.2.2))))))).getD x236.toNat D44).2.2.1, (((x234.set x236.toNat ((x234.getD x236.toNat D44).1, ((x234.getD x236.toNat D44).2.1, ((x234.getD x236.toNat D44).2.2.1, ((x234.getD x236.toNat D44).2.2.2.1, ((x234.getD x236.toNat D44).2.2.2.2.1, (true, (x234.getD x236.toNat D44).2.2.2.2.2.2))))))).getD x236.toNat D44).2.2.2.1, (x235, (((x234.set x236.toNat ((x234.getD x236.toNat D44).1, ((x234.getD x236.toNat D44).2.1, ((x234.getD x236.toNat D44).2.2.1, ((x234.getD x236.toNat D44).2.2.2.1, ((x234.getD x236.toNat D44).2.2.2.2.1, (true, (x234.getD x236.toNat D44).2.2.2.2.2.2))))))).getD x236.toNat D44).2.2.2.2.2.1, ((x234.set x236.toNat ((x234.getD x236.toNat D44).1, ((x234.getD x236.toNat D44).2.1, ((x234.getD x236.toNat D44).2.2.1, ((x234.getD x236.toNat D44).2.2.2.1, ((x234.getD x236.toNat D44).2.2.2.2.1, (true, (x234.getD x236.toNat D44).2.2.2.2.2.2))))))).getD x236.toNat D44).2.2.2.2.2.2))))))) .dp]⟩ (pu 3 (an g340 (pu 1 (an g341 (tn 0))))) ?_
       rw [show ((x234.set x236.toNat ((x234.getD x236.toNat D44).1, ((x234.getD x236.toNat D44).2.1, ((x234.getD x236.toNat D44).2.2.1, ((x234.getD x236.toNat D44).2.2.2.1, ((x234.getD x236.toNat D44).2.2.2.2.1, (true, (x234.getD x236.toNat D44).2.2.2.2.2.2))))))).set x236.toNat (((x234.set x236.toNat ((x234.getD x236.toNat D44).1, ((x234.getD x236.toNat D44).2.1, ((x234.getD x236.toNat D44).2.2.1, ((x234.getD x236.toNat D44).2.2.2.1, ((x234.getD x236.toNat D44).2.2.2.2.1, (true, (x234.getD x236.toNat D44).2.2.2.2.2.2))))))).getD x236.toNat D44).1, (((x234.set x236.toNat ((x234.getD x236.toNat D44).1, ((x234.getD x236.toNat D44).2.1, ((x234.getD x236.toNat D44).2.2.1, ((x234.getD x236.toNat D44).2.2.2.1, ((x234.getD x236.toNat D44).2.2.2.2.1, (true, (x234.getD x236.toNat D44).2.2.2.2.2.2))))))).getD x236.toNat D44).2.1, (((x234.set x236.toNat ((x234.getD x236.toNat D44).1, ((x234.getD x236.toNat D44).2.1, ((x234.getD x236.toNat D44).2.2.1, ((x234.getD x236.toNat D44).2.2.2.1, ((x234.getD x236.toNat D44).2.2.2.2.1, (true, (x234.getD x236.toNat D44).2.2.2.2.2.2))))))).getD x236.toNat D44).2.2.1, (((x234.set x236.toNat ((x234.getD x236.toNat D44).1, ((x234.getD x236.toNat D44).2.1, ((x234.getD x236.toNat D44).2.2.1, ((x234.getD x236.toNat D44).2.2.2.1, ((x234.getD x236.toNat D44).2.2.2.2.1, (true, (x234.getD x236.toNat D44).2.2.2.2.2.2))))))).getD x236.toNat D44).2.2.2.1, (x235, (((x234.set x236.toNat ((x234.getD x236.toNat D44).1, ((x234.getD x236.toNat D44).2.1, ((x234.getD x236.toNat D44).2.2.1, ((x234.getD x236.toNat D44).2.2.2.1, ((x234.getD x236.toNat D44).2.2.2.2.1, (true, (x234.getD x236.toNat D44).2.2.2.2.2.2))))))).getD x236.toNat D44).2.2.2.2.2.1, ((x234.set x236.toNat ((x234.getD x236.toNat D44).1, ((x234.getD x236.toNat D44).2.1, ((x234.getD x236.toNat D44).2.2.1, ((x234.getD x236.toNat D44).2.2.2.1, ((x234.getD x236.toNat D44).2.2.2.2.1, (true, (x234.getD x236.toNat D44).2.2.2.2.2.2))))))).getD x236.toNat D44).2.2.2.2.2.2))))))) = (x234.set x236.toNat ((x234.getD x236.toNat D44).1, ((x234.getD x236.toNat D44).2.1, ((x234.getD x236.toNat D44).2.2.1, ((x234.getD x236.toNat D44).2.2.2.1, (x235, (true, (x234.getD x236.toNat D44).2.2.2.2.2.2))))))) from set_upd x234 x236.toNat ((x234.getD x236.toNat D44).1, ((x234.getD x236.toNat D44).2.1, ((x234.getD x236.toNat D44).2.2.1, ((x234.getD x236.toNat D44).2.2.2.1, ((x234.getD x236.toNat D44).2.2.2.2.1, (true, (x234.getD x236.toNat D44).2.2.2.2.2.2)))))) D44 (fun z => (z.1, (z.2.1, (z.2.2.1, (z.2.2.2.1, (x235, (z.2.2.2.2.2.1, z.2.2.2.2.2.2))))))) (by first | (simp; done) | simpa using g341)]
       refine sN K [0, 5, 6, 7, 65536] [0, 1] ⟨[(0, .lf (.ptr 0 0 0 0)), (5, hh 1), (6, I x235), (7, I x236), (65536, .lf (.ptr 0 0 0 0))], [bx (lv Y58 y337.1) 59, ar 0 Y44 (x234.set x236.toNat ((x234.getD x236.toNat D44).1, ((x234.getD x236.toNat D44).2.1, ((x234.getD x236.toNat D44).2.2.1, ((x234.getD x236.toNat D44).2.2.2.1, (x235, (true, (x234.getD x236.toNat D44).2.2.2.2.2.2))))))) .dp]⟩ (tn 0) ?_
       refine nE K (tn 3) ?_
       exact arv [.ren [0, 5, 6, 7, 65536] [0, 1]] ⟨y337.1.1, y337.1.2.1, y337.1.2.2, (x234.set x236.toNat ((x234.getD x236.toNat D44).1, ((x234.getD x236.toNat D44).2.1, ((x234.getD x236.toNat D44).2.2.1, ((x234.getD x236.toNat D44).2.2.2.1, (x235, (true, (x234.getD x236.toNat D44).2.2.2.2.2.2))))))), (wr (x235 + (1 : Int))), rfl, h⟩
      refine VW.skip ?_
      exact arv [.ren [0, 5, 6, 7, 65536] [0, 1]] ⟨y337.1.1, y337.1.2.1, y337.1.2.2, x234, x235, rfl, h⟩
     refine nN K (tn 3) ?_
     refine VW.cond (b := false) (by kernel_rfl) (fun h' => nomatch h') (fun _ => ?_)
     refine VW.skip ?_
     exact arv [.ren [0, 5, 6, 7, 65536] [0, 1]] ⟨x231, x232, x233, x234, x235, rfl, h⟩
    rintro s ⟨x313, x314, x315, x316, x317, rfl, h⟩
    unfold F17_j1 at h
    refine nE K (tn 3) ?_
    exact aro [.ren [0, 5, 6, 7, 65536] [0, 1]] ⟨x313, x314, x315, x316, x317, (wr (x236 + (1 : Int))), rfl, h⟩
   refine VW.exit ?_
   exact arv [.ren [0, 5, 65536] [0, 1]] ⟨x231, x232, x233, x234, rfl, h⟩
 rintro s ⟨x169, x170, x171, x172, rfl, h⟩
 unfold F17_j0 at h
 refine sq <| VW.region <| nG K 2 (tn 2) ?_
 obtain⟨y173,hy,h⟩:=aS h
 refine VO.callM [0, 1] [.r, .t (.sl Y44)] (d := some 56) (by kernel_rfl) (by kernel_rfl) (ok43 N _ _ hy) (by kernel_rfl) <| nN K (tn 1) ?_
 replace h := Option.some.inj h
 subst h
 refine VW.ghl [.ren [4, 65536] [0, 2]] (VW.ret ?_)
 exact ⟨[some 1], by kernel_rfl, by kernel_rfl, by kernel_rfl⟩
def F18_j0 (N : Nat) (a0 : (List Int)) (x11 : Int) : Option (Z58) :=
  some (a0, ((0 : Int), x11))
def F18_l0_b (N : Nat) (a0 : (List Int)) (nx20 : Int → Int → Option (Z58)) (x16 : Int) (x17 : Int) : Option (Z58) :=
  cond (decide (x17 < (a0.length : Int))) (cond (decide (x17 < (4000 : Int))) (gd (InR x17 a0.length) (nx20 (IntKind.i64.wrap (((BitVec.ofInt IntKind.i64.bits (IntKind.i64.wrap ((IntKind.i64.wrap ((IntKind.i64.wrap (x16 * (149 : Int))) + (IntKind.i64.wrap (a0.getD x17.toNat (Ty.dflt (.int .u8)))))) + (11 : Int))) &&& BitVec.ofInt IntKind.i64.bits (1073741823 : Int)).toNat : Nat) : Int)) (IntKind.i64.wrap (x17 + (1 : Int))))) (F18_j0 N a0 x16)) (F18_j0 N a0 x16)
def F18_l0 (N : Nat) (a0 : (List Int)) := loopF (F18_l0_b N a0) (fun _ _ => none)
theorem F18_l0_s N a0 {k} (hk : 0 < k) x16 x17 : F18_l0 N a0 k x16 x17 = F18_l0_b N a0 (F18_l0 N a0 (k - 1)) x16 x17 := by cases k;cases hk;rfl
def F18 (N : Nat) (a0 : (List Int)) : Option (Z58) :=
  F18_l0 N a0 N (IntKind.i64.wrap ((844844 : Int) + (a0.length : Int))) (0 : Int)
theorem ok18 N a0 {r} (h : F18 N a0 = some r) : ConB prog 18 [Vv (.sl (.int .u8)) a0] [.v (.sl (.int .u8)) r.1, .v (.int .i64) r.2.1, .v (.int .i64) r.2.2] 59 := by
 refine ⟨enters_of func18 rfl (by decide), by kernel_rfl, HB.intro (d := 2) func18 rfl (Nat.le_of_ble_eq_true rfl) (Nat.le_of_ble_eq_true rfl) rfl (by kernel_rfl) fun w0 E0 ht => ?_⟩
 unfold F18 at h
 show VW _ _ _ _ _ (retB _ _ _) _
 refine nR K (tn 1) <| nR K (tn 4) ?_
 refine VW.join (fun s => ∃ x11, s = ⟨[(0, Vv (.sl (.int .u8)) a0), (3, I x11)], []⟩ ∧ F18_j0 N a0 x11 = some r) ?_ ?_
 ·refine nR K (tn 1) <| VW.block <| lop (fun k s => ∃ x16 x17, s = ⟨[(0, Vv (.sl (.int .u8)) a0), (3, I x16), (4, I x17)], []⟩ ∧ F18_l0 N a0 k x16 x17 = some r) N [.ren [0, 3, 4] []] ⟨(wr ((844844 : Int) + (a0.length : Int))), (0 : Int), rfl, h⟩ ?_
  rintro k20 s ⟨x16, x17, rfl, h⟩
  cases k20 with
  | zero => cases show none = some r from h
  | succ k20 =>
   replace h : F18_l0_b N a0 (F18_l0 N a0 k20) x16 x17 = some r := h
   unfold F18_l0_b at h
   refine sq <| sq <| VW.region <| nG K 5 (tn 5) ?_
   refine spC 12 h ?_ ?_<;>intro h
   ·refine nN K (tn 3) ?_
    refine cnd h ?_ ?_<;>intro h
    ·refine VW.skip <| sq <| VW.block ?_
     obtain⟨g22,h⟩:=gS h
     refine nE K (pu 4 (an g22 (tn 6))) <| nE K (tn 3) ?_
     exact aro [.ren [0, 3, 4] []] ⟨(wr (((BitVec.ofInt IntKind.i64.bits (wr ((wr ((wr (x16 * (149 : Int))) + (wr (a0.getD x17.toNat (Ty.dflt (.int .u8)))))) + (11 : Int))) &&& BitVec.ofInt IntKind.i64.bits (1073741823 : Int)).toNat : Nat) : Int)), (wr (x17 + (1 : Int))), rfl, h⟩
    refine VW.exit ?_
    exact arv [.ren [0, 3] []] ⟨x16, rfl, h⟩
   refine nN K (tn 3) ?_
   refine VW.cond (b := false) (by kernel_rfl) (fun h' => nomatch h') (fun _ => ?_)
   refine VW.exit ?_
   exact arv [.ren [0, 3] []] ⟨x16, rfl, h⟩
 rintro s ⟨x11, rfl, h⟩
 unfold F18_j0 at h
 refine nR K (tn 5) ?_
 replace h := Option.some.inj h
 subst h
 refine VW.ret ?_
 exact ⟨0, 0, by kernel_rfl, by kernel_rfl⟩
def F5 (N : Nat) (a0 : (List Int)) : Option ((List Z44)) :=
  andO (F18 N a0) fun y1 => andO (F17 N y1 a0) fun y2 => some y2.2
theorem ok5 N a0 {r} (h : F5 N a0 = some r) : Con prog 5 [Vv (.sl (.int .u8)) a0] [.lf (.own Y44 r .tp)] := by
 refine ctr [.lf (.own Y44 .tp)] K func5 rfl fun w0 E0 ht => ?_
 unfold F5 at h
 show VW _ _ _ _ _ (retQ _ _ _ _) _
 refine nR K (tn 1) <| sq <| VW.region <| nG K 1 (tn 1) ?_
 obtain⟨y1,hy,h⟩:=aS h
 refine VO.callB [.t (.sl (.int .u8))] (d := 4) (by kernel_rfl) (ok18 N _ hy) <| nG K 1 (tn 1) ?_
 obtain⟨y2,hy,h⟩:=aS h
 refine VO.callM [0] [.r, .t (.sl (.int .u8))] (d := some 6) (by kernel_rfl) (by kernel_rfl) (ok17 N _ _ hy) (by kernel_rfl) <| nN K (tn 1) ?_
 cases h; exact VW.ret (rt [some 1])
def F40 (N : Nat) (a0 : Int) (a1 : Int) (a2 : Int) : Option (Bool) :=
  cond (decide (a1 ≤ a0)) (some (decide (a0 ≤ a2))) (some false)
theorem ok40 N a0 a1 a2 {r} (h : F40 N a0 a1 a2 = some r) : Con prog 40 [I a0, I a1, I a2] [.lf (.v .bool r)] := by
 refine ctr [.lf (.v .bool)] K func40 rfl fun w0 E0 ht => ?_
 unfold F40 at h
 show VW _ _ _ _ _ (retQ _ _ _ _) _
 refine nR K (tn 1) <| sq <| VW.region <| nG K 4 (tn 4) ?_
 refine spC 10 h ?_ ?_<;>intro h
 ·refine nN K (tn 5) ?_
  cases h; exact VW.ret (rt [])
 refine nN K (tn 5) ?_
 cases h; exact VW.ret (rt [])
def F46 (N : Nat) (a0 : Int) : Option (Bool) :=
  andO (F40 N a0 (-1000000 : Int) (1000000 : Int)) fun y1 => some y1
theorem ok46 N a0 {r} (h : F46 N a0 = some r) : Con prog 46 [I a0] [.lf (.v .bool r)] := by
 refine ctr [.lf (.v .bool)] K func46 rfl fun w0 E0 ht => ?_
 unfold F46 at h
 show VW _ _ _ _ _ (retQ _ _ _ _) _
 refine nR K (tn 1) <| sq <| VW.region <| nG K 1 (tn 1) ?_
 obtain⟨y1,hy,h⟩:=aS h
 refine clc false [.t (.int .i64), .t (.int .i64), .t (.int .i64)] [] (some 4) K (ok40 N _ _ _ hy) <| nN K (tn 1) ?_
 cases h; exact VW.ret (rt [])
def F77_j0 (N : Nat) : Option (Bool) :=
  some true
def F77_j1 (N : Nat) (nx74 : Int → Option (Bool)) (x60 : Int) : Option (Bool) :=
  nx74 (IntKind.i64.wrap (x60 + (1 : Int)))
def F77_l0_b (N : Nat) (a0 : ByteArray) (nx74 : Int → Option (Bool)) (x60 : Int) : Option (Bool) :=
  cond (decide (x60 < (a0.size : Int))) (gd (InR x60 a0.size) (cond (decide (((a0.data.getD x60.toNat 0).toNat : Int) < (97 : Int))) (gd (InR x60 a0.size) (cond (decide (((a0.data.getD x60.toNat 0).toNat : Int) < (48 : Int))) (some false) (gd (InR x60 a0.size) (cond (decide (((a0.data.getD x60.toNat 0).toNat : Int) > (57 : Int))) (some false) (F77_j1 N nx74 x60))))) (gd (InR x60 a0.size) (cond (decide (((a0.data.getD x60.toNat 0).toNat : Int) > (122 : Int))) (gd (InR x60 a0.size) (cond (decide (((a0.data.getD x60.toNat 0).toNat : Int) < (48 : Int))) (some false) (gd (InR x60 a0.size) (cond (decide (((a0.data.getD x60.toNat 0).toNat : Int) > (57 : Int))) (some false) (F77_j1 N nx74 x60))))) (F77_j1 N nx74 x60))))) (F77_j0 N)
def F77_l0 (N : Nat) (a0 : ByteArray) := loopF (F77_l0_b N a0) (fun _ => none)
theorem F77_l0_s N a0 {k} (hk : 0 < k) x60 : F77_l0 N a0 k x60 = F77_l0_b N a0 (F77_l0 N a0 (k - 1)) x60 := by cases k;cases hk;rfl
def F77 (N : Nat) (a0 : ByteArray) : Option (Bool) :=
  andO (F40 N (a0.size : Int) (1 : Int) (12 : Int)) fun y3 => cond (!y3) (some false) (gd (InR (0 : Int) a0.size) (cond (decide (((a0.data.getD (0 : Int).toNat 0).toNat : Int) < (97 : Int))) (some false) (F77_l0 N a0 N (0 : Int))))
theorem ok77 N a0 {r} (h : F77 N a0 = some r) : Con prog 77 [S a0] [.lf (.v .bool r)] := by
 refine ctr [.lf (.v .bool)] K func77 rfl fun w0 E0 ht => ?_
 unfold F77 at h
 show VW _ _ _ _ _ (retQ _ _ _ _) _
 refine nR K (tn 1) <| sq <| sq <| VW.region <| nG K 2 (tn 2) ?_
 obtain⟨y3,hy,h⟩:=aS h
 refine clc false [.t (.int .i64), .t (.int .i64), .t (.int .i64)] [] (some 6) K (ok40 N _ _ _ hy) <| nG K 2 (tn 2) ?_
 refine spC 8 h ?_ ?_<;>intro h
 ·refine nN K (tn 4) ?_
  refine VW.cond (b := true) (by kernel_rfl) (fun _ => ?_) (fun h' => nomatch h')
  refine nR K (tn 1) ?_
  cases h; exact VW.ret (rt [])
 obtain⟨g4,h⟩:=gS h
 refine nN K (pu 1 (an g4 (tn 2))) ?_
 refine cnd h ?_ ?_<;>intro h
 ·refine nR K (tn 1) ?_
  cases h; exact VW.ret (rt [])
 refine VW.skip ?_
 refine VW.join (fun s => s = ⟨[], []⟩ ∧ F77_j0 N = some r) ?_ ?_
 ·refine nR K (tn 1) <| VW.block <| lop (fun k s => ∃ x60, s = ⟨[(0, S a0), (3, I x60)], []⟩ ∧ F77_l0 N a0 k x60 = some r) N [.ren [0, 3] []] ⟨(0 : Int), rfl, h⟩ ?_
  rintro k74 s ⟨x60, rfl, h⟩
  cases k74 with
  | zero => cases show none = some r from h
  | succ k74 =>
   replace h : F77_l0_b N a0 (F77_l0 N a0 k74) x60 = some r := h
   unfold F77_l0_b at h
   refine sq <| nR K (tn 4) ?_
   refine cnd h ?_ ?_<;>intro h
   ·refine VW.skip ?_
    refine VW.join (fun s => s = ⟨[(0, S a0), (3, I x60)], []⟩ ∧ F77_j1 N (F77_l0 N a0 k74) x60 = some r) ?_ ?_
    ·refine VW.block <| sq <| VW.region ?_
     obtain⟨g82,h⟩:=gS h
     refine nG K 5 (pu 2 (an g82 (tn 2))) ?_
     refine spC 23 h ?_ ?_<;>intro h
     ·obtain⟨g83,h⟩:=gS h
      refine nG K 11 (pu 8 (an g83 (tn 2))) ?_
      refine spC 34 h ?_ ?_<;>intro h
      ·refine nN K (tn 6) ?_
       refine VW.cond (b := true) (by kernel_rfl) (fun _ => ?_) (fun h' => nomatch h')
       refine nR K (tn 1) ?_
       cases h; exact VW.ret (rt [])
      obtain⟨g84,h⟩:=gS h
      refine nN K (pu 2 (an g84 (tn 3))) ?_
      refine cnd h ?_ ?_<;>intro h
      ·refine nR K (tn 1) ?_
       cases h; exact VW.ret (rt [])
      refine VW.skip ?_
      exact arv [.ren [0, 3] []] ⟨rfl, h⟩
     obtain⟨g85,h⟩:=gS h
     refine nG K 6 (pu 2 (an g85 (tn 3))) ?_
     refine spC 29 h ?_ ?_<;>intro h
     ·obtain⟨g86,h⟩:=gS h
      refine nG K 5 (pu 2 (an g86 (tn 2))) ?_
      refine spC 34 h ?_ ?_<;>intro h
      ·refine nN K (tn 6) ?_
       refine VW.cond (b := true) (by kernel_rfl) (fun _ => ?_) (fun h' => nomatch h')
       refine nR K (tn 1) ?_
       cases h; exact VW.ret (rt [])
      obtain⟨g87,h⟩:=gS h
      refine nN K (pu 2 (an g87 (tn 3))) ?_
      refine cnd h ?_ ?_<;>intro h
      ·refine nR K (tn 1) ?_
       cases h; exact VW.ret (rt [])
      refine VW.skip ?_
      exact arv [.ren [0, 3] []] ⟨rfl, h⟩
     refine nN K (tn 11) ?_
     refine VW.cond (b := false) (by kernel_rfl) (fun h' => nomatch h') (fun _ => ?_)
     refine VW.skip ?_
     exact arv [.ren [0, 3] []] ⟨rfl, h⟩
    rintro s ⟨rfl, h⟩
    unfold F77_j1 at h
    refine nE K (tn 3) ?_
    exact aro [.ren [0, 3] []] ⟨(wr (x60 + (1 : Int))), rfl, h⟩
   refine VW.exit ?_
   exact arv [.ren [] []] ⟨rfl, h⟩
 rintro s ⟨rfl, h⟩
 unfold F77_j0 at h
 refine nR K (tn 1) ?_
 cases h; exact VW.ret (rt [])
def F78 (N : Nat) (a0 : Int) : Option (Bool) :=
  andO (F40 N a0 (0 : Int) (63 : Int)) fun y1 => some y1
theorem ok78 N a0 {r} (h : F78 N a0 = some r) : Con prog 78 [I a0] [.lf (.v .bool r)] := by
 refine ctr [.lf (.v .bool)] K func78 rfl fun w0 E0 ht => ?_
 unfold F78 at h
 show VW _ _ _ _ _ (retQ _ _ _ _) _
 refine nR K (tn 1) <| sq <| VW.region <| nG K 1 (tn 1) ?_
 obtain⟨y1,hy,h⟩:=aS h
 refine clc false [.t (.int .i64), .t (.int .i64), .t (.int .i64)] [] (some 4) K (ok40 N _ _ _ hy) <| nN K (tn 1) ?_
 cases h; exact VW.ret (rt [])
def F44_j0 (N : Nat) : Option (Bool) :=
  some false
def F44_j1 (N : Nat) (x11 : Int) (x13 : Int) (x14 : Bool) (x15 : (List Int)) : Option (Bool) :=
  andO (F40 N (x15.length : Int) (1 : Int) (6 : Int)) fun y75 => cond y75 (cond (x11 == (0 : Int)) (cond (x13 == (0 : Int)) (some (!x14)) (some false)) (some false)) (some false)
def F44_l0_b (N : Nat) (x11 : Int) (x13 : Int) (x14 : Bool) (x15 : (List Int)) (nx86 : Int → Option (Bool)) (x81 : Int) : Option (Bool) :=
  cond (decide (x81 < (x15.length : Int))) (gd (InR x81 x15.length) (andO (F78 N (x15.getD x81.toNat (Ty.dflt (.int .i64)))) fun y90 => cond (!y90) (some false) (nx86 (IntKind.i64.wrap (x81 + (1 : Int)))))) (F44_j1 N x11 x13 x14 x15)
def F44_l0 (N : Nat) (x11 : Int) (x13 : Int) (x14 : Bool) (x15 : (List Int)) := loopF (F44_l0_b N x11 x13 x14 x15) (fun _ => none)
theorem F44_l0_s N x11 x13 x14 x15 {k} (hk : 0 < k) x81 : F44_l0 N x11 x13 x14 x15 k x81 = F44_l0_b N x11 x13 x14 x15 (F44_l0 N x11 x13 x14 x15 (k - 1)) x81 := by cases k;cases hk;rfl
def F44_j2 (N : Nat) (x11 : Int) (x13 : Int) (x14 : Bool) (x95 : Bool) : Option (Bool) :=
  cond x95 (cond (x11 == (0 : Int)) (cond (x13 == (0 : Int)) (some (!x14)) (some false)) (some false)) (F44_j0 N)
def F44_j3 (N : Nat) (x9 : Int) (x10 : ByteArray) (x11 : Int) (x12 : Int) (x13 : Int) (x14 : Bool) (x15 : (List Int)) : Option (Bool) :=
  cond (x9 == (0 : Int)) (andO (F77 N x10) fun y57 => cond y57 (cond (x11 == (0 : Int)) (cond (x13 == (0 : Int)) (some (!x14)) (some false)) (some false)) (some false)) (cond (x9 == (1 : Int)) (andO (F78 N x11) fun y58 => cond y58 (andO (F40 N x12 (0 : Int) (3 : Int)) fun y59 => cond y59 (andO (F46 N x13) fun y60 => cond y60 (cond (x12 != (3 : Int)) (some true) (cond (x13 == (0 : Int)) (some (!x14)) (some false))) (some false)) (some false)) (some false)) (cond (x9 == (2 : Int)) (F44_l0 N x11 x13 x14 x15 N (0 : Int)) (cond (x9 == (3 : Int)) (andO (F78 N x11) fun y91 => cond y91 (andO (F78 N x13) fun y92 => cond y92 (some (!x14)) (some false)) (some false)) (cond (x9 == (5 : Int)) (andO (F78 N x11) fun y93 => cond y93 (cond (x13 == (0 : Int)) (some (!x14)) (some false)) (some false)) (cond (x9 == (6 : Int)) (cond (x11 == (0 : Int)) (andO (F40 N x13 (0 : Int) (1000000 : Int)) fun y94 => some y94) (some false)) (cond (x9 == (4 : Int)) (F44_j2 N x11 x13 x14 (x9 == (4 : Int))) (F44_j2 N x11 x13 x14 (x9 == (7 : Int)))))))))
def F44 (N : Nat) (a0 : Z44) : Option (Bool) :=
  cond (a0.1 != (0 : Int)) (cond (!(a0.2.1.toList == ByteArray.empty.toList)) (some false) (cond (a0.1 != (2 : Int)) (cond (decide ((a0.2.2.2.2.2.2.length : Int) > (0 : Int))) (some false) (cond (a0.1 != (1 : Int)) (cond (a0.2.2.2.1 != (0 : Int)) (some false) (cond a0.2.2.2.2.2.1 (andO (F40 N a0.2.2.2.2.1 (0 : Int) (39 : Int)) fun y98 => cond (!y98) (some false) (F44_j3 N a0.1 a0.2.1 a0.2.2.1 a0.2.2.2.1 a0.2.2.2.2.1 a0.2.2.2.2.2.1 a0.2.2.2.2.2.2)) (F44_j3 N a0.1 a0.2.1 a0.2.2.1 a0.2.2.2.1 a0.2.2.2.2.1 a0.2.2.2.2.2.1 a0.2.2.2.2.2.2))) (cond a0.2.2.2.2.2.1 (andO (F40 N a0.2.2.2.2.1 (0 : Int) (39 : Int)) fun y99 => cond (!y99) (some false) (F44_j3 N a0.1 a0.2.1 a0.2.2.1 a0.2.2.2.1 a0.2.2.2.2.1 a0.2.2.2.2.2.1 a0.2.2.2.2.2.2)) (F44_j3 N a0.1 a0.2.1 a0.2.2.1 a0.2.2.2.1 a0.2.2.2.2.1 a0.2.2.2.2.2.1 a0.2.2.2.2.2.2)))) (cond (a0.1 != (1 : Int)) (cond (a0.2.2.2.1 != (0 : Int)) (some false) (cond a0.2.2.2.2.2.1 (andO (F40 N a0.2.2.2.2.1 (0 : Int) (39 : Int)) fun y100 => cond (!y100) (some false) (F44_j3 N a0.1 a0.2.1 a0.2.2.1 a0.2.2.2.1 a0.2.2.2.2.1 a0.2.2.2.2.2.1 a0.2.2.2.2.2.2)) (F44_j3 N a0.1 a0.2.1 a0.2.2.1 a0.2.2.2.1 a0.2.2.2.2.1 a0.2.2.2.2.2.1 a0.2.2.2.2.2.2))) (cond a0.2.2.2.2.2.1 (andO (F40 N a0.2.2.2.2.1 (0 : Int) (39 : Int)) fun y101 => cond (!y101) (some false) (F44_j3 N a0.1 a0.2.1 a0.2.2.1 a0.2.2.2.1 a0.2.2.2.2.1 a0.2.2.2.2.2.1 a0.2.2.2.2.2.2)) (F44_j3 N a0.1 a0.2.1 a0.2.2.1 a0.2.2.2.1 a0.2.2.2.2.1 a0.2.2.2.2.2.1 a0.2.2.2.2.2.2))))) (cond (a0.1 != (2 : Int)) (cond (decide ((a0.2.2.2.2.2.2.length : Int) > (0 : Int))) (some false) (cond (a0.1 != (1 : Int)) (cond (a0.2.2.2.1 != (0 : Int)) (some false) (cond a0.2.2.2.2.2.1 (andO (F40 N a0.2.2.2.2.1 (0 : Int) (39 : Int)) fun y102 => cond (!y102) (some false) (F44_j3 N a0.1 a0.2.1 a0.2.2.1 a0.2.2.2.1 a0.2.2.2.2.1 a0.2.2.2.2.2.1 a0.2.2.2.2.2.2)) (F44_j3 N a0.1 a0.2.1 a0.2.2.1 a0.2.2.2.1 a0.2.2.2.2.1 a0.2.2.2.2.2.1 a0.2.2.2.2.2.2))) (cond a0.2.2.2.2.2.1 (andO (F40 N a0.2.2.2.2.1 (0 : Int) (39 : Int)) fun y103 => cond (!y103) (some false) (F44_j3 N a0.1 a0.2.1 a0.2.2.1 a0.2.2.2.1 a0.2.2.2.2.1 a0.2.2.2.2.2.1 a0.2.2.2.2.2.2)) (F44_j3 N a0.1 a0.2.1 a0.2.2.1 a0.2.2.2.1 a0.2.2.2.2.1 a0.2.2.2.2.2.1 a0.2.2.2.2.2.2)))) (cond (a0.1 != (1 : Int)) (cond (a0.2.2.2.1 != (0 : Int)) (some false) (cond a0.2.2.2.2.2.1 (andO (F40 N a0.2.2.2.2.1 (0 : Int) (39 : Int)) fun y104 => cond (!y104) (some false) (F44_j3 N a0.1 a0.2.1 a0.2.2.1 a0.2.2.2.1 a0.2.2.2.2.1 a0.2.2.2.2.2.1 a0.2.2.2.2.2.2)) (F44_j3 N a0.1 a0.2.1 a0.2.2.1 a0.2.2.2.1 a0.2.2.2.2.1 a0.2.2.2.2.2.1 a0.2.2.2.2.2.2))) (cond a0.2.2.2.2.2.1 (andO (F40 N a0.2.2.2.2.1 (0 : Int) (39 : Int)) fun y105 => cond (!y105) (some false) (F44_j3 N a0.1 a0.2.1 a0.2.2.1 a0.2.2.2.1 a0.2.2.2.2.1 a0.2.2.2.2.2.1 a0.2.2.2.2.2.2)) (F44_j3 N a0.1 a0.2.1 a0.2.2.1 a0.2.2.2.1 a0.2.2.2.2.1 a0.2.2.2.2.2.1 a0.2.2.2.2.2.2))))
theorem ok44 N a0 {r} (h : F44 N a0 = some r) : Con prog 44 [.agg (lv Y44 a0)] [.lf (.v .bool r)] := by
 refine ctr [.lf (.v .bool)] K func44 rfl fun w0 E0 ht => ?_
 unfold F44 at h
 show VW _ _ _ _ _ (retQ _ _ _ _) _
 refine nR K (tn 2) ?_
 refine VW.join (fun s => ∃ x9 x10 x11 x12 x13 x14 x15, s = ⟨[(1, .lf (.ptr 0 0 0 0))], [bx [zi x9, zs x10, zi x11, zi x12, zi x13, zb x14, .v (.sl (.int .i64)) x15] 45]⟩ ∧ F44_j3 N x9 x10 x11 x12 x13 x14 x15 = some r) ?_ ?_
 ·refine sq <| VW.region <| nG K 4 (tn 4) ?_
  refine spC 7 h ?_ ?_<;>intro h
  ·refine nG K 5 (tn 5) ?_
   refine spC 12 h ?_ ?_<;>intro h
   ·refine nN K (tn 30) ?_
    refine VW.cond (b := true) (by kernel_rfl) (fun _ => ?_) (fun h' => nomatch h')
    refine nR K (tn 1) ?_
    cases h; exact VW.ret (rt [])
   refine nG K 4 (tn 4) ?_
   refine spC 16 h ?_ ?_<;>intro h
   ·refine nG K 7 (tn 7) ?_
    refine spC 23 h ?_ ?_<;>intro h
    ·refine nN K (tn 19) ?_
     refine VW.cond (b := true) (by kernel_rfl) (fun _ => ?_) (fun h' => nomatch h')
     refine nR K (tn 1) ?_
     cases h; exact VW.ret (rt [])
    refine nG K 4 (tn 4) ?_
    refine spC 27 h ?_ ?_<;>intro h
    ·refine nG K 6 (tn 6) ?_
     refine spC 33 h ?_ ?_<;>intro h
     ·refine nN K (tn 9) ?_
      refine VW.cond (b := true) (by kernel_rfl) (fun _ => ?_) (fun h' => nomatch h')
      refine nR K (tn 1) ?_
      cases h; exact VW.ret (rt [])
     refine nG K 3 (tn 3) ?_
     refine spC 36 h ?_ ?_<;>intro h
     ·refine nG K 2 (tn 2) <| VO.on (j := 32) (want := true) (d := 36) (b := true) rfl rfl rfl (by kernel_rfl) rfl ?_
      obtain⟨y98,hy,h⟩:=aS h
      refine clc false [.t (.int .i64), .t (.int .i64), .t (.int .i64)] [] (some 39) K (ok40 N _ _ _ hy) <| nN K (tn 3) ?_
      refine cnd h ?_ ?_<;>intro h
      ·refine nR K (tn 1) ?_
       cases h; exact VW.ret (rt [])
      refine VW.skip ?_
      exact arv [.ren [1] [0]] ⟨a0.1, a0.2.1, a0.2.2.1, a0.2.2.2.1, a0.2.2.2.2.1, a0.2.2.2.2.2.1, a0.2.2.2.2.2.2, rfl, h⟩
     refine nN K (tn 6) ?_
     refine VW.cond (b := false) (by kernel_rfl) (fun h' => nomatch h') (fun _ => ?_)
     refine VW.skip ?_
     exact arv [.ren [1] [0]] ⟨a0.1, a0.2.1, a0.2.2.1, a0.2.2.2.1, a0.2.2.2.2.1, a0.2.2.2.2.2.1, a0.2.2.2.2.2.2, rfl, h⟩
    refine nG K 9 (tn 9) ?_
    refine spC 36 h ?_ ?_<;>intro h
    ·refine nG K 2 (tn 2) <| VO.on (j := 32) (want := true) (d := 36) (b := true) rfl rfl rfl (by kernel_rfl) rfl ?_
     obtain⟨y99,hy,h⟩:=aS h
     refine clc false [.t (.int .i64), .t (.int .i64), .t (.int .i64)] [] (some 39) K (ok40 N _ _ _ hy) <| nN K (tn 3) ?_
     refine cnd h ?_ ?_<;>intro h
     ·refine nR K (tn 1) ?_
      cases h; exact VW.ret (rt [])
     refine VW.skip ?_
     exact arv [.ren [1] [0]] ⟨a0.1, a0.2.1, a0.2.2.1, a0.2.2.2.1, a0.2.2.2.2.1, a0.2.2.2.2.2.1, a0.2.2.2.2.2.2, rfl, h⟩
    refine nN K (tn 6) ?_
    refine VW.cond (b := false) (by kernel_rfl) (fun h' => nomatch h') (fun _ => ?_)
    refine VW.skip ?_
    exact arv [.ren [1] [0]] ⟨a0.1, a0.2.1, a0.2.2.1, a0.2.2.2.1, a0.2.2.2.2.1, a0.2.2.2.2.2.1, a0.2.2.2.2.2.2, rfl, h⟩
   refine nG K 11 (tn 11) ?_
   refine spC 27 h ?_ ?_<;>intro h
   ·refine nG K 6 (tn 6) ?_
    refine spC 33 h ?_ ?_<;>intro h
    ·refine nN K (tn 9) ?_
     refine VW.cond (b := true) (by kernel_rfl) (fun _ => ?_) (fun h' => nomatch h')
     refine nR K (tn 1) ?_
     cases h; exact VW.ret (rt [])
    refine nG K 3 (tn 3) ?_
    refine spC 36 h ?_ ?_<;>intro h
    ·refine nG K 2 (tn 2) <| VO.on (j := 32) (want := true) (d := 36) (b := true) rfl rfl rfl (by kernel_rfl) rfl ?_
     obtain⟨y100,hy,h⟩:=aS h
     refine clc false [.t (.int .i64), .t (.int .i64), .t (.int .i64)] [] (some 39) K (ok40 N _ _ _ hy) <| nN K (tn 3) ?_
     refine cnd h ?_ ?_<;>intro h
     ·refine nR K (tn 1) ?_
      cases h; exact VW.ret (rt [])
     refine VW.skip ?_
     exact arv [.ren [1] [0]] ⟨a0.1, a0.2.1, a0.2.2.1, a0.2.2.2.1, a0.2.2.2.2.1, a0.2.2.2.2.2.1, a0.2.2.2.2.2.2, rfl, h⟩
    refine nN K (tn 6) ?_
    refine VW.cond (b := false) (by kernel_rfl) (fun h' => nomatch h') (fun _ => ?_)
    refine VW.skip ?_
    exact arv [.ren [1] [0]] ⟨a0.1, a0.2.1, a0.2.2.1, a0.2.2.2.1, a0.2.2.2.2.1, a0.2.2.2.2.2.1, a0.2.2.2.2.2.2, rfl, h⟩
   refine nG K 9 (tn 9) ?_
   refine spC 36 h ?_ ?_<;>intro h
   ·refine nG K 2 (tn 2) <| VO.on (j := 32) (want := true) (d := 36) (b := true) rfl rfl rfl (by kernel_rfl) rfl ?_
    obtain⟨y101,hy,h⟩:=aS h
    refine clc false [.t (.int .i64), .t (.int .i64), .t (.int .i64)] [] (some 39) K (ok40 N _ _ _ hy) <| nN K (tn 3) ?_
    refine cnd h ?_ ?_<;>intro h
    ·refine nR K (tn 1) ?_
     cases h; exact VW.ret (rt [])
    refine VW.skip ?_
    exact arv [.ren [1] [0]] ⟨a0.1, a0.2.1, a0.2.2.1, a0.2.2.2.1, a0.2.2.2.2.1, a0.2.2.2.2.2.1, a0.2.2.2.2.2.2, rfl, h⟩
   refine nN K (tn 6) ?_
   refine VW.cond (b := false) (by kernel_rfl) (fun h' => nomatch h') (fun _ => ?_)
   refine VW.skip ?_
   exact arv [.ren [1] [0]] ⟨a0.1, a0.2.1, a0.2.2.1, a0.2.2.2.1, a0.2.2.2.2.1, a0.2.2.2.2.2.1, a0.2.2.2.2.2.2, rfl, h⟩
  refine nG K 9 (tn 9) ?_
  refine spC 16 h ?_ ?_<;>intro h
  ·refine nG K 7 (tn 7) ?_
   refine spC 23 h ?_ ?_<;>intro h
   ·refine nN K (tn 19) ?_
    refine VW.cond (b := true) (by kernel_rfl) (fun _ => ?_) (fun h' => nomatch h')
    refine nR K (tn 1) ?_
    cases h; exact VW.ret (rt [])
   refine nG K 4 (tn 4) ?_
   refine spC 27 h ?_ ?_<;>intro h
   ·refine nG K 6 (tn 6) ?_
    refine spC 33 h ?_ ?_<;>intro h
    ·refine nN K (tn 9) ?_
     refine VW.cond (b := true) (by kernel_rfl) (fun _ => ?_) (fun h' => nomatch h')
     refine nR K (tn 1) ?_
     cases h; exact VW.ret (rt [])
    refine nG K 3 (tn 3) ?_
    refine spC 36 h ?_ ?_<;>intro h
    ·refine nG K 2 (tn 2) <| VO.on (j := 32) (want := true) (d := 36) (b := true) rfl rfl rfl (by kernel_rfl) rfl ?_
     obtain⟨y102,hy,h⟩:=aS h
     refine clc false [.t (.int .i64), .t (.int .i64), .t (.int .i64)] [] (some 39) K (ok40 N _ _ _ hy) <| nN K (tn 3) ?_
     refine cnd h ?_ ?_<;>intro h
     ·refine nR K (tn 1) ?_
      cases h; exact VW.ret (rt [])
     refine VW.skip ?_
     exact arv [.ren [1] [0]] ⟨a0.1, a0.2.1, a0.2.2.1, a0.2.2.2.1, a0.2.2.2.2.1, a0.2.2.2.2.2.1, a0.2.2.2.2.2.2, rfl, h⟩
    refine nN K (tn 6) ?_
    refine VW.cond (b := false) (by kernel_rfl) (fun h' => nomatch h') (fun _ => ?_)
    refine VW.skip ?_
    exact arv [.ren [1] [0]] ⟨a0.1, a0.2.1, a0.2.2.1, a0.2.2.2.1, a0.2.2.2.2.1, a0.2.2.2.2.2.1, a0.2.2.2.2.2.2, rfl, h⟩
   refine nG K 9 (tn 9) ?_
   refine spC 36 h ?_ ?_<;>intro h
   ·refine nG K 2 (tn 2) <| VO.on (j := 32) (want := true) (d := 36) (b := true) rfl rfl rfl (by kernel_rfl) rfl ?_
    obtain⟨y103,hy,h⟩:=aS h
    refine clc false [.t (.int .i64), .t (.int .i64), .t (.int .i64)] [] (some 39) K (ok40 N _ _ _ hy) <| nN K (tn 3) ?_
    refine cnd h ?_ ?_<;>intro h
    ·refine nR K (tn 1) ?_
     cases h; exact VW.ret (rt [])
    refine VW.skip ?_
    exact arv [.ren [1] [0]] ⟨a0.1, a0.2.1, a0.2.2.1, a0.2.2.2.1, a0.2.2.2.2.1, a0.2.2.2.2.2.1, a0.2.2.2.2.2.2, rfl, h⟩
   refine nN K (tn 6) ?_
   refine VW.cond (b := false) (by kernel_rfl) (fun h' => nomatch h') (fun _ => ?_)
   refine VW.skip ?_
   exact arv [.ren [1] [0]] ⟨a0.1, a0.2.1, a0.2.2.1, a0.2.2.2.1, a0.2.2.2.2.1, a0.2.2.2.2.2.1, a0.2.2.2.2.2.2, rfl, h⟩
  refine nG K 11 (tn 11) ?_
  refine spC 27 h ?_ ?_<;>intro h
  ·refine nG K 6 (tn 6) ?_
   refine spC 33 h ?_ ?_<;>intro h
   ·refine nN K (tn 9) ?_
    refine VW.cond (b := true) (by kernel_rfl) (fun _ => ?_) (fun h' => nomatch h')
    refine nR K (tn 1) ?_
    cases h; exact VW.ret (rt [])
   refine nG K 3 (tn 3) ?_
   refine spC 36 h ?_ ?_<;>intro h
   ·refine nG K 2 (tn 2) <| VO.on (j := 32) (want := true) (d := 36) (b := true) rfl rfl rfl (by kernel_rfl) rfl ?_
    obtain⟨y104,hy,h⟩:=aS h
    refine clc false [.t (.int .i64), .t (.int .i64), .t (.int .i64)] [] (some 39) K (ok40 N _ _ _ hy) <| nN K (tn 3) ?_
    refine cnd h ?_ ?_<;>intro h
    ·refine nR K (tn 1) ?_
     cases h; exact VW.ret (rt [])
    refine VW.skip ?_
    exact arv [.ren [1] [0]] ⟨a0.1, a0.2.1, a0.2.2.1, a0.2.2.2.1, a0.2.2.2.2.1, a0.2.2.2.2.2.1, a0.2.2.2.2.2.2, rfl, h⟩
   refine nN K (tn 6) ?_
   refine VW.cond (b := false) (by kernel_rfl) (fun h' => nomatch h') (fun _ => ?_)
   refine VW.skip ?_
   exact arv [.ren [1] [0]] ⟨a0.1, a0.2.1, a0.2.2.1, a0.2.2.2.1, a0.2.2.2.2.1, a0.2.2.2.2.2.1, a0.2.2.2.2.2.2, rfl, h⟩
  refine nG K 9 (tn 9) ?_
  refine spC 36 h ?_ ?_<;>intro h
  ·refine nG K 2 (tn 2) <| VO.on (j := 32) (want := true) (d := 36) (b := true) rfl rfl rfl (by kernel_rfl) rfl ?_
   obtain⟨y105,hy,h⟩:=aS h
   refine clc false [.t (.int .i64), .t (.int .i64), .t (.int .i64)] [] (some 39) K (ok40 N _ _ _ hy) <| nN K (tn 3) ?_
   refine cnd h ?_ ?_<;>intro h
   ·refine nR K (tn 1) ?_
    cases h; exact VW.ret (rt [])
   refine VW.skip ?_
   exact arv [.ren [1] [0]] ⟨a0.1, a0.2.1, a0.2.2.1, a0.2.2.2.1, a0.2.2.2.2.1, a0.2.2.2.2.2.1, a0.2.2.2.2.2.2, rfl, h⟩
  refine nN K (tn 6) ?_
  refine VW.cond (b := false) (by kernel_rfl) (fun h' => nomatch h') (fun _ => ?_)
  refine VW.skip ?_
  exact arv [.ren [1] [0]] ⟨a0.1, a0.2.1, a0.2.2.1, a0.2.2.2.1, a0.2.2.2.2.1, a0.2.2.2.2.2.1, a0.2.2.2.2.2.2, rfl, h⟩
 rintro s ⟨x9, x10, x11, x12, x13, x14, x15, rfl, h⟩
 unfold F44_j3 at h
 refine VW.join (fun s => s = ⟨[], []⟩ ∧ F44_j0 N = some r) ?_ ?_
 ·refine nR K (tn 2) <| VW.block <| nR K (tn 2) ?_
  refine cnd h ?_ ?_<;>intro h
  ·refine sq <| VW.region <| nG K 2 (tn 2) ?_
   obtain⟨y57,hy,h⟩:=aS h
   refine clc false [.t .str] [] (some 49) K (ok77 N _ hy) <| nG K 1 (tn 1) ?_
   refine spC 50 h ?_ ?_<;>intro h
   ·refine nG K 5 (tn 5) ?_
    refine spC 55 h ?_ ?_<;>intro h
    ·refine nG K 5 (tn 5) ?_
     refine spC 60 h ?_ ?_<;>intro h
     ·refine nN K (tn 5) ?_
      cases h; exact VW.ret (rt [])
     refine nN K (tn 5) ?_
     cases h; exact VW.ret (rt [])
    refine nN K (tn 10) ?_
    cases h; exact VW.ret (rt [])
   refine nN K (tn 15) ?_
   cases h; exact VW.ret (rt [])
  refine nR K (tn 2) ?_
  refine cnd h ?_ ?_<;>intro h
  ·refine sq <| VW.region <| nG K 2 (tn 2) ?_
   obtain⟨y58,hy,h⟩:=aS h
   refine clc false [.t (.int .i64)] [] (some 69) K (ok78 N _ hy) <| nG K 1 (tn 1) ?_
   refine spC 70 h ?_ ?_<;>intro h
   ·refine nG K 2 (tn 2) <| VO.on (j := 3) (want := true) (d := 70) (b := true) rfl rfl rfl (by kernel_rfl) rfl ?_
    obtain⟨y59,hy,h⟩:=aS h
    refine clc false [.t (.int .i64), .t (.int .i64), .t (.int .i64)] [] (some 73) K (ok40 N _ _ _ hy) <| nG K 2 (tn 2) ?_
    refine spC 75 h ?_ ?_<;>intro h
    ·refine nG K 2 (tn 2) <| VO.on (j := 8) (want := true) (d := 75) (b := true) rfl rfl rfl (by kernel_rfl) rfl ?_
     obtain⟨y60,hy,h⟩:=aS h
     refine clc false [.t (.int .i64)] [] (some 78) K (ok46 N _ hy) <| nG K 2 (tn 2) ?_
     refine spC 80 h ?_ ?_<;>intro h
     ·refine nG K 4 (tn 4) ?_
      refine spC 84 h ?_ ?_<;>intro h
      ·refine nN K (tn 11) ?_
       cases h; exact VW.ret (rt [])
      refine nG K 4 (tn 4) ?_
      refine spC 88 h ?_ ?_<;>intro h
      ·refine nN K (tn 7) ?_
       cases h; exact VW.ret (rt [])
      refine nN K (tn 7) ?_
      cases h; exact VW.ret (rt [])
     refine nN K (tn 15) ?_
     cases h; exact VW.ret (rt [])
    refine nN K (tn 20) ?_
    cases h; exact VW.ret (rt [])
   refine nN K (tn 25) ?_
   cases h; exact VW.ret (rt [])
  refine nR K (tn 2) ?_
  refine cnd h ?_ ?_<;>intro h
  ·refine VW.join (fun s => s = ⟨[(1, .lf (.ptr 0 0 0 0))], [bx [zi x9, zs x10, zi x11, zi x12, zi x13, zb x14, .v (.sl (.int .i64)) x15] 45]⟩ ∧ F44_j1 N x11 x13 x14 x15 = some r) ?_ ?_
   ·refine nR K (tn 1) <| VW.block <| lop (fun k s => ∃ x81, s = ⟨[(1, .lf (.ptr 0 0 0 0)), (3, I x81)], [bx [zi x9, zs x10, zi x11, zi x12, zi x13, zb x14, .v (.sl (.int .i64)) x15] 45]⟩ ∧ F44_l0 N x11 x13 x14 x15 k x81 = some r) N [.ren [1, 3] [0]] ⟨(0 : Int), rfl, h⟩ ?_
    rintro k86 s ⟨x81, rfl, h⟩
    cases k86 with
    | zero => cases show none = some r from h
    | succ k86 =>
     replace h : F44_l0_b N x11 x13 x14 x15 (F44_l0 N x11 x13 x14 x15 k86) x81 = some r := h
     unfold F44_l0_b at h
     refine sq <| nR K (tn 5) ?_
     refine cnd h ?_ ?_<;>intro h
     ·refine VW.skip <| sq <| VW.block <| sq <| VW.region ?_
      obtain⟨g89,h⟩:=gS h
      refine nG K 5 (pu 3 (an g89 (tn 1))) ?_
      obtain⟨y90,hy,h⟩:=aS h
      refine clc false [.t (.int .i64)] [] (some 109) K (ok78 N _ hy) <| nN K (tn 1) ?_
      refine cnd h ?_ ?_<;>intro h
      ·refine nR K (tn 1) ?_
       cases h; exact VW.ret (rt [])
      refine VW.skip <| nE K (tn 3) ?_
      exact aro [.ren [1, 3] [0]] ⟨(wr (x81 + (1 : Int))), rfl, h⟩
     refine VW.exit ?_
     exact arv [.ren [1] [0]] ⟨rfl, h⟩
   rintro s ⟨rfl, h⟩
   unfold F44_j1 at h
   refine sq <| VW.region <| nG K 3 (tn 3) ?_
   obtain⟨y75,hy,h⟩:=aS h
   refine clc false [.t (.int .i64), .t (.int .i64), .t (.int .i64)] [] (some 114) K (ok40 N _ _ _ hy) <| nG K 1 (tn 1) ?_
   refine spC 115 h ?_ ?_<;>intro h
   ·refine nG K 5 (tn 5) ?_
    refine spC 120 h ?_ ?_<;>intro h
    ·refine nG K 5 (tn 5) ?_
     refine spC 125 h ?_ ?_<;>intro h
     ·refine nN K (tn 5) ?_
      cases h; exact VW.ret (rt [])
     refine nN K (tn 5) ?_
     cases h; exact VW.ret (rt [])
    refine nN K (tn 10) ?_
    cases h; exact VW.ret (rt [])
   refine nN K (tn 15) ?_
   cases h; exact VW.ret (rt [])
  refine nR K (tn 2) ?_
  refine cnd h ?_ ?_<;>intro h
  ·refine sq <| VW.region <| nG K 2 (tn 2) ?_
   obtain⟨y91,hy,h⟩:=aS h
   refine clc false [.t (.int .i64)] [] (some 134) K (ok78 N _ hy) <| nG K 1 (tn 1) ?_
   refine spC 135 h ?_ ?_<;>intro h
   ·refine nG K 2 (tn 2) <| VO.on (j := 3) (want := true) (d := 135) (b := true) rfl rfl rfl (by kernel_rfl) rfl ?_
    obtain⟨y92,hy,h⟩:=aS h
    refine clc false [.t (.int .i64)] [] (some 138) K (ok78 N _ hy) <| nG K 2 (tn 2) ?_
    refine spC 140 h ?_ ?_<;>intro h
    ·refine nN K (tn 5) ?_
     cases h; exact VW.ret (rt [])
    refine nN K (tn 5) ?_
    cases h; exact VW.ret (rt [])
   refine nN K (tn 10) ?_
   cases h; exact VW.ret (rt [])
  refine nR K (tn 2) ?_
  refine cnd h ?_ ?_<;>intro h
  ·refine sq <| VW.region <| nG K 2 (tn 2) ?_
   obtain⟨y93,hy,h⟩:=aS h
   refine clc false [.t (.int .i64)] [] (some 149) K (ok78 N _ hy) <| nG K 1 (tn 1) ?_
   refine spC 150 h ?_ ?_<;>intro h
   ·refine nG K 5 (tn 5) ?_
    refine spC 155 h ?_ ?_<;>intro h
    ·refine nN K (tn 5) ?_
     cases h; exact VW.ret (rt [])
    refine nN K (tn 5) ?_
    cases h; exact VW.ret (rt [])
   refine nN K (tn 10) ?_
   cases h; exact VW.ret (rt [])
  refine nR K (tn 2) ?_
  refine cnd h ?_ ?_<;>intro h
  ·refine sq <| VW.region <| nG K 4 (tn 4) ?_
   refine spC 165 h ?_ ?_<;>intro h
   ·refine nG K 2 (tn 2) <| VO.on (j := 3) (want := true) (d := 165) (b := true) rfl rfl rfl (by kernel_rfl) rfl ?_
    obtain⟨y94,hy,h⟩:=aS h
    refine clc false [.t (.int .i64), .t (.int .i64), .t (.int .i64)] [] (some 168) K (ok40 N _ _ _ hy) <| nN K (tn 2) ?_
    cases h; exact VW.ret (rt [])
   refine nN K (tn 5) ?_
   cases h; exact VW.ret (rt [])
  refine VW.join (fun s => ∃ x95, s = ⟨[(1, .lf (.ptr 0 0 0 0)), (170, B x95)], [bx [zi x9, zs x10, zi x11, zi x12, zi x13, zb x14, .v (.sl (.int .i64)) x15] 45]⟩ ∧ F44_j2 N x11 x13 x14 x95 = some r) ?_ ?_
  ·refine nR K (tn 2) ?_
   refine cnd h ?_ ?_<;>intro h
   ·refine VW.skip ?_
    exact arv [.ren [1, 170] [0]] ⟨(x9 == (4 : Int)), rfl, h⟩
   refine nE K (tn 2) ?_
   exact arv [.ren [1, 170] [0]] ⟨(x9 == (7 : Int)), rfl, h⟩
  rintro s ⟨x95, rfl, h⟩
  unfold F44_j2 at h
  refine cnd h ?_ ?_<;>intro h
  ·refine sq <| VW.region <| nG K 4 (tn 4) ?_
   refine spC 176 h ?_ ?_<;>intro h
   ·refine nG K 5 (tn 5) ?_
    refine spC 181 h ?_ ?_<;>intro h
    ·refine nN K (tn 5) ?_
     cases h; exact VW.ret (rt [])
    refine nN K (tn 5) ?_
    cases h; exact VW.ret (rt [])
   refine nN K (tn 10) ?_
   cases h; exact VW.ret (rt [])
  refine VW.skip ?_
  exact arv [.ren [] []] ⟨rfl, h⟩
 rintro s ⟨rfl, h⟩
 unfold F44_j0 at h
 refine nR K (tn 1) ?_
 cases h; exact VW.ret (rt [])
def F79_j0 (N : Nat) (x6 : Bool) : Option (Int) :=
  cond x6 (some (1 : Int)) (some (-1 : Int))
def F79_j1 (N : Nat) (a0 : Int) (x5 : Bool) : Option (Int) :=
  cond x5 (some (2 : Int)) (cond (a0 == (1 : Int)) (F79_j0 N (a0 == (1 : Int))) (cond (a0 == (2 : Int)) (F79_j0 N (a0 == (2 : Int))) (cond (a0 == (5 : Int)) (F79_j0 N (a0 == (5 : Int))) (cond (a0 == (6 : Int)) (F79_j0 N (a0 == (6 : Int))) (F79_j0 N (a0 == (7 : Int)))))))
def F79 (N : Nat) (a0 : Int) : Option (Int) :=
  cond (a0 == (0 : Int)) (some (0 : Int)) (cond (a0 == (3 : Int)) (F79_j1 N a0 (a0 == (3 : Int))) (F79_j1 N a0 (a0 == (4 : Int))))
theorem ok79 N a0 {r} (h : F79 N a0 = some r) : Con prog 79 [I a0] [.lf (.v (.int .i64) r)] := by
 refine ctr [.lf (.v (.int .i64))] K func79 rfl fun w0 E0 ht => ?_
 unfold F79 at h
 show VW _ _ _ _ _ (retQ _ _ _ _) _
 refine nR K (tn 1) <| sq <| nR K (tn 1) <| VW.block <| nR K (tn 2) ?_
 refine cnd h ?_ ?_<;>intro h
 ·refine nR K (tn 1) ?_
  cases h; exact VW.ret (rt [])
 refine VW.join (fun s => ∃ x5, s = ⟨[(3, I a0), (6, B x5)], []⟩ ∧ F79_j1 N a0 x5 = some r) ?_ ?_
 ·refine nR K (tn 2) ?_
  refine cnd h ?_ ?_<;>intro h
  ·refine VW.skip ?_
   exact arv [.ren [3, 6] []] ⟨(a0 == (3 : Int)), rfl, h⟩
  refine nE K (tn 2) ?_
  exact arv [.ren [3, 6] []] ⟨(a0 == (4 : Int)), rfl, h⟩
 rintro s ⟨x5, rfl, h⟩
 unfold F79_j1 at h
 refine cnd h ?_ ?_<;>intro h
 ·refine nR K (tn 1) ?_
  cases h; exact VW.ret (rt [])
 refine VW.join (fun s => ∃ x6, s = ⟨[(9, B x6)], []⟩ ∧ F79_j0 N x6 = some r) ?_ ?_
 ·refine nR K (tn 2) ?_
  refine cnd h ?_ ?_<;>intro h
  ·refine VW.skip ?_
   exact arv [.ren [9] []] ⟨(a0 == (1 : Int)), rfl, h⟩
  refine nR K (tn 2) ?_
  refine cnd h ?_ ?_<;>intro h
  ·refine VW.skip ?_
   exact arv [.ren [9] []] ⟨(a0 == (2 : Int)), rfl, h⟩
  refine nR K (tn 2) ?_
  refine cnd h ?_ ?_<;>intro h
  ·refine VW.skip ?_
   exact arv [.ren [9] []] ⟨(a0 == (5 : Int)), rfl, h⟩
  refine nR K (tn 2) ?_
  refine cnd h ?_ ?_<;>intro h
  ·refine VW.skip ?_
   exact arv [.ren [9] []] ⟨(a0 == (6 : Int)), rfl, h⟩
  refine nE K (tn 2) ?_
  exact arv [.ren [9] []] ⟨(a0 == (7 : Int)), rfl, h⟩
 rintro s ⟨x6, rfl, h⟩
 unfold F79_j0 at h
 refine cnd h ?_ ?_<;>intro h
 ·refine nR K (tn 1) ?_
  cases h; exact VW.ret (rt [])
 refine VW.skip <| nR K (tn 1) ?_
 cases h; exact VW.ret (rt [])
def F45_j0 (N : Nat) (x33 : Int) (x34 : Int) : Option (Int × Int) :=
  some (x33, (IntKind.i64.wrap (x34 + (1 : Int))))
def F45_j1 (N : Nat) (nx58 : Int → Int → Int → Option (Int × Int)) (x48 : Int) (x64 : Int) (x65 : Int) : Option (Int × Int) :=
  nx58 x64 x65 (IntKind.i64.wrap (x48 + (1 : Int)))
def F45_l0_b (N : Nat) (a0 : (List Z44)) (a1 : Int) (a2 : Int) (self : (List Z44) → Int → Int → Option (Int × Int)) (nx58 : Int → Int → Int → Option (Int × Int)) (x46 : Int) (x47 : Int) (x48 : Int) : Option (Int × Int) :=
  gd (InR a1 a0.length) (andO (F79 N ((a0.getD a1.toNat (Ty.dflt Y44)).1)) fun y62 => cond (decide (x48 < y62)) (andO (self a0 x46 (IntKind.i64.wrap (a2 - (1 : Int)))) fun y67 => cond (decide (y67.1 < (0 : Int))) (some ((-1 : Int), (0 : Int))) (cond (decide (y67.2 > x47)) (F45_j1 N nx58 x48 y67.1 y67.2) (F45_j1 N nx58 x48 y67.1 x47))) (F45_j0 N x46 x47))
def F45_l0 (N : Nat) (a0 : (List Z44)) (a1 : Int) (a2 : Int) (self : (List Z44) → Int → Int → Option (Int × Int)) := loopF (F45_l0_b N a0 a1 a2 self) (fun _ _ _ => none)
theorem F45_l0_s N a0 a1 a2 (self : (List Z44) → Int → Int → Option (Int × Int)) {k} (hk : 0 < k) x46 x47 x48 : F45_l0 N a0 a1 a2 self k x46 x47 x48 = F45_l0_b N a0 a1 a2 self (F45_l0 N a0 a1 a2 self (k - 1)) x46 x47 x48 := by cases k;cases hk;rfl
def F45_b (N : Nat) (self : (List Z44) → Int → Int → Option (Int × Int)) (a0 : (List Z44)) (a1 : Int) (a2 : Int) : Option (Int × Int) :=
  cond (decide (a1 ≥ (a0.length : Int))) (some ((-1 : Int), (0 : Int))) (cond (a2 == (0 : Int)) (some ((-1 : Int), (0 : Int))) (F45_l0 N a0 a1 a2 self N (IntKind.i64.wrap (a1 + (1 : Int))) (0 : Int) (0 : Int)))
theorem ok45_b (N : Nat) (self : (List Z44) → Int → Int → Option (Int × Int)) (ih : ∀ (a0 : (List Z44)) (a1 : Int) (a2 : Int) (r : Int × Int), self a0 a1 a2 = some r → Con prog 45 [Vv (.sl Y44) a0, I a1, I a2] [.lf (.v (.int .i64) r.1), .lf (.v (.int .i64) r.2)]) (a0 : (List Z44)) (a1 : Int) (a2 : Int) {r : Int × Int} (h : F45_b N self a0 a1 a2 = some r) : Con prog 45 [Vv (.sl Y44) a0, I a1, I a2] [.lf (.v (.int .i64) r.1), .lf (.v (.int .i64) r.2)] := by
 refine ctr [.lf (.v (.int .i64)), .lf (.v (.int .i64))] K func45 rfl fun w0 E0 ht => ?_
 unfold F45_b at h
 show VW _ _ _ _ _ (retQ _ _ _ _) _
 refine nR K (tn 2) <| sq <| sq <| VW.region <| nG K 5 (tn 5) ?_
 refine spC 17 h ?_ ?_<;>intro h
 ·refine nN K (tn 3) ?_
  refine VW.cond (b := true) (by kernel_rfl) (fun _ => ?_) (fun h' => nomatch h')
  refine nR K (tn 2) ?_
  cases h; exact VW.ret (rt [])
 refine nN K (tn 3) ?_
 refine cnd h ?_ ?_<;>intro h
 ·refine nR K (tn 2) ?_
  cases h; exact VW.ret (rt [])
 refine VW.skip <| nR K (tn 3) <| nR K (tn 1) ?_
 refine VW.join (fun s => ∃ x33 x34, s = ⟨[(8, I x33), (9, I x34)], []⟩ ∧ F45_j0 N x33 x34 = some r) ?_ ?_
 ·refine nR K (tn 1) <| VW.block <| lop (fun k s => ∃ x46 x47 x48, s = ⟨[(0, Vv (.sl Y44) a0), (1, I a1), (2, I a2), (8, I x46), (9, I x47), (10, I x48)], []⟩ ∧ F45_l0 N a0 a1 a2 self k x46 x47 x48 = some r) N [.ren [0, 1, 2, 8, 9, 10] []] ⟨(wr (a1 + (1 : Int))), (0 : Int), (0 : Int), rfl, h⟩ ?_
  rintro k58 s ⟨x46, x47, x48, rfl, h⟩
  cases k58 with
  | zero => cases show none = some r from h
  | succ k58 =>
   replace h : F45_l0_b N a0 a1 a2 self (F45_l0 N a0 a1 a2 self k58) x46 x47 x48 = some r := h
   unfold F45_l0_b at h
   refine sq <| sq <| VW.region ?_
   obtain⟨g61,h⟩:=gS h
   refine nG K 6 (pu 3 (an g61 (tn 2))) ?_
   obtain⟨y62,hy,h⟩:=aS h
   refine clc false [.t (.int .i64)] [] (some 29) K (ok79 N _ hy) <| nN K (tn 1) ?_
   refine cnd h ?_ ?_<;>intro h
   ·refine VW.skip ?_
    refine VW.join (fun s => ∃ x64 x65, s = ⟨[(0, Vv (.sl Y44) a0), (1, I a1), (2, I a2), (8, I x64), (9, I x65), (10, I x48)], []⟩ ∧ F45_j1 N (F45_l0 N a0 a1 a2 self k58) x48 x64 x65 = some r) ?_ ?_
    ·refine VW.block <| sq <| VW.region <| nG K 4 (tn 4) ?_
     obtain⟨y67,hy,h⟩:=aS h
     refine clc false [.t (.sl Y44), .t (.int .i64), .t (.int .i64)] [] (some 38) K (ih _ _ _ _ hy) <| nN K (tn 5) <| sq <| nR K (tn 2) ?_
     refine cnd h ?_ ?_<;>intro h
     ·refine nR K (tn 2) ?_
      cases h; exact VW.ret (rt [])
     refine VW.skip <| nR K (tn 2) <| nR K (tn 3) ?_
     refine cnd h ?_ ?_<;>intro h
     ·refine nE K (tn 2) ?_
      exact arv [.ren [0, 1, 2, 8, 9, 10] []] ⟨y67.1, y67.2, rfl, h⟩
     refine VW.skip ?_
     exact arv [.ren [0, 1, 2, 8, 9, 10] []] ⟨y67.1, x47, rfl, h⟩
    rintro s ⟨x64, x65, rfl, h⟩
    unfold F45_j1 at h
    refine nE K (tn 3) ?_
    exact aro [.ren [0, 1, 2, 8, 9, 10] []] ⟨x64, x65, (wr (x48 + (1 : Int))), rfl, h⟩
   refine VW.exit ?_
   exact arv [.ren [8, 9] []] ⟨x46, x47, rfl, h⟩
 rintro s ⟨x33, x34, rfl, h⟩
 unfold F45_j0 at h
 refine nR K (tn 5) ?_
 cases h; exact VW.ret (rt [])
def F45_r (N : Nat) := loopF (F45_b N) (fun _ _ _ => none)
theorem F45_s N {k} (hk : 0 < k) a0 a1 a2 : F45_r N k a0 a1 a2 = F45_b N (F45_r N (k - 1)) a0 a1 a2 := by cases k;cases hk;rfl
def F45 (N : Nat) : (List Z44) → Int → Int → Option (Int × Int) := F45_r N N
theorem ok45_k (N : Nat) : ∀ (k : Nat) (a0 : (List Z44)) (a1 : Int) (a2 : Int) (r : Int × Int), loopF (F45_b N) (fun _ _ _ => none) k a0 a1 a2 = some r → Con prog 45 [Vv (.sl Y44) a0, I a1, I a2] [.lf (.v (.int .i64) r.1), .lf (.v (.int .i64) r.2)]
 | 0, a0, a1, a2, r, h => nomatch (show (none : Option (Int × Int)) = some r from h)
 | k + 1, a0, a1, a2, r, h => ok45_b N _ (ok45_k N k) a0 a1 a2 h
theorem ok45 N a0 a1 a2 {r} (h : F45 N a0 a1 a2 = some r) : Con prog 45 [Vv (.sl Y44) a0, I a1, I a2] [.lf (.v (.int .i64) r.1), .lf (.v (.int .i64) r.2)] := ok45_k N N a0 a1 a2 r h
def F19_j0 (N : Nat) (a0 : (List Z44)) : Option (Bool) :=
  andO (F45 N a0 (0 : Int) (10 : Int)) fun y17 => some (y17.1 == (a0.length : Int))
def F19_l0_b (N : Nat) (a0 : (List Z44)) (nx28 : Int → Option (Bool)) (x23 : Int) : Option (Bool) :=
  cond (decide (x23 < (a0.length : Int))) (gd (InR x23 a0.length) (andO (F44 N (a0.getD x23.toNat (Ty.dflt Y44))) fun y32 => cond (!y32) (some false) (nx28 (IntKind.i64.wrap (x23 + (1 : Int)))))) (F19_j0 N a0)
def F19_l0 (N : Nat) (a0 : (List Z44)) := loopF (F19_l0_b N a0) (fun _ => none)
theorem F19_l0_s N a0 {k} (hk : 0 < k) x23 : F19_l0 N a0 k x23 = F19_l0_b N a0 (F19_l0 N a0 (k - 1)) x23 := by cases k;cases hk;rfl
def F19 (N : Nat) (a0 : (List Z44)) : Option (Bool) :=
  andO (F40 N (a0.length : Int) (1 : Int) (40 : Int)) fun y2 => cond (!y2) (some false) (F19_l0 N a0 N (0 : Int))
theorem ok19 N a0 {r} (h : F19 N a0 = some r) : Con prog 19 [Vv (.sl Y44) a0] [.lf (.v .bool r)] := by
 refine ctr [.lf (.v .bool)] K func19 rfl fun w0 E0 ht => ?_
 unfold F19 at h
 show VW _ _ _ _ _ (retQ _ _ _ _) _
 refine nR K (tn 1) <| sq <| sq <| VW.region <| nG K 2 (tn 2) ?_
 obtain⟨y2,hy,h⟩:=aS h
 refine clc false [.t (.int .i64), .t (.int .i64), .t (.int .i64)] [] (some 8) K (ok40 N _ _ _ hy) <| nN K (tn 1) ?_
 refine cnd h ?_ ?_<;>intro h
 ·refine nR K (tn 1) ?_
  cases h; exact VW.ret (rt [])
 refine VW.skip ?_
 refine VW.join (fun s => s = ⟨[(0, Vv (.sl Y44) a0)], []⟩ ∧ F19_j0 N a0 = some r) ?_ ?_
 ·refine nR K (tn 1) <| VW.block <| lop (fun k s => ∃ x23, s = ⟨[(0, Vv (.sl Y44) a0), (3, I x23)], []⟩ ∧ F19_l0 N a0 k x23 = some r) N [.ren [0, 3] []] ⟨(0 : Int), rfl, h⟩ ?_
  rintro k28 s ⟨x23, rfl, h⟩
  cases k28 with
  | zero => cases show none = some r from h
  | succ k28 =>
   replace h : F19_l0_b N a0 (F19_l0 N a0 k28) x23 = some r := h
   unfold F19_l0_b at h
   refine sq <| nR K (tn 4) ?_
   refine cnd h ?_ ?_<;>intro h
   ·refine VW.skip <| sq <| VW.block <| sq <| VW.region ?_
    obtain⟨g31,h⟩:=gS h
    refine nG K 4 (pu 2 (an g31 (tn 1))) ?_
    obtain⟨y32,hy,h⟩:=aS h
    refine clc false [.t Y44] [] (some 20) K (ok44 N _ hy) <| nN K (tn 1) ?_
    refine cnd h ?_ ?_<;>intro h
    ·refine nR K (tn 1) ?_
     cases h; exact VW.ret (rt [])
    refine VW.skip <| nE K (tn 3) ?_
    exact aro [.ren [0, 3] []] ⟨(wr (x23 + (1 : Int))), rfl, h⟩
   refine VW.exit ?_
   exact arv [.ren [0] []] ⟨rfl, h⟩
 rintro s ⟨rfl, h⟩
 unfold F19_j0 at h
 refine sq <| VW.region <| nG K 1 (tn 1) ?_
 obtain⟨y17,hy,h⟩:=aS h
 refine clc false [.t (.sl Y44), .t (.int .i64), .t (.int .i64)] [] (some 24) K (ok45 N _ _ _ hy) <| nN K (tn 5) <| nR K (tn 5) ?_
 cases h; exact VW.ret (rt [])
def F20_j0 (N : Nat) (x10 : (List Int)) (x11 : Int) : Option ((List Int)) :=
  gd (x10.length + ([(IntKind.u8.wrap x11)]).length ≤ lim (.int .u8)) (some (x10 ++ ([(IntKind.u8.wrap x11)])))
def F20_l0_b (N : Nat) (nx18 : (List Int) → Int → Option ((List Int))) (x15 : (List Int)) (x16 : Int) : Option ((List Int)) :=
  cond (decide (x16 ≥ (128 : Int))) (gd (x15.length + ([(IntKind.u8.wrap (IntKind.i64.wrap ((128 : Int) + (Int.tmod x16 (128 : Int)))))]).length ≤ lim (.int .u8)) (nx18 (x15 ++ ([(IntKind.u8.wrap (IntKind.i64.wrap ((128 : Int) + (Int.tmod x16 (128 : Int)))))])) (IntKind.i64.wrap (Int.tdiv x16 (128 : Int))))) (F20_j0 N x15 x16)
def F20_l0 (N : Nat) := loopF (F20_l0_b N) (fun _ _ => none)
theorem F20_l0_s N {k} (hk : 0 < k) x15 x16 : F20_l0 N k x15 x16 = F20_l0_b N (F20_l0 N (k - 1)) x15 x16 := by cases k;cases hk;rfl
def F20_j1 (N : Nat) (x3 : Int) : Option ((List Int)) :=
  F20_l0 N N ([]) x3
def F20 (N : Nat) (a0 : Int) : Option ((List Int)) :=
  andO (F46 N a0) fun y2 => cond (!y2) (some ([])) (cond (decide (a0 < (0 : Int))) (F20_j1 N (IntKind.i64.wrap ((IntKind.i64.wrap ((-2 : Int) * a0)) - (1 : Int)))) (F20_j1 N (IntKind.i64.wrap ((2 : Int) * a0))))
theorem ok20 N a0 {r} (h : F20 N a0 = some r) : Con prog 20 [I a0] [.lf (.own (.int .u8) r .dp)] := by
 refine ctr [.lf (.own (.int .u8) .dp)] K func20 rfl fun w0 E0 ht => ?_
 unfold F20 at h
 show VW _ _ _ _ _ (retQ _ _ _ _) _
 refine nR K (tn 1) <| nR K (tn 2) <| sq <| sq <| VW.region <| nG K 1 (tn 1) ?_
 obtain⟨y2,hy,h⟩:=aS h
 refine clc false [.t (.int .i64)] [] (some 7) K (ok46 N _ hy) <| nN K (tn 1) ?_
 refine cnd h ?_ ?_<;>intro h
 ·refine nR K (tn 1) ?_
  cases h; exact VW.ret (rt [none])
 refine VW.skip <| nR K (tn 3) ?_
 refine VW.join (fun s => ∃ x3, s = ⟨[(3, .lf (.nil)), (4, I x3)], []⟩ ∧ F20_j1 N x3 = some r) ?_ ?_
 ·refine nR K (tn 2) ?_
  refine cnd h ?_ ?_<;>intro h
  ·refine nE K (tn 4) ?_
   exact arv [.ren [3, 4] []] ⟨(wr ((wr ((-2 : Int) * a0)) - (1 : Int))), rfl, h⟩
  refine VW.skip ?_
  exact arv [.ren [3, 4] []] ⟨(wr ((2 : Int) * a0)), rfl, h⟩
 rintro s ⟨x3, rfl, h⟩
 unfold F20_j1 at h
 refine VW.join (fun s => ∃ x10 x11, s = ⟨[(3, hh 0), (4, I x11)], [ar 0 (.int .u8) x10 .dp]⟩ ∧ F20_j0 N x10 x11 = some r) ?_ ?_
 ·refine VW.block <| lop (fun k s => ∃ x15 x16, s = ⟨[(3, hh 0), (4, I x16)], [ar 0 (.int .u8) x15 .dp]⟩ ∧ F20_l0 N k x15 x16 = some r) N [.nilS 3 (.int .u8) .dp, .ren [3, 4] [0]] ⟨[], x3, rfl, h⟩ ?_
  rintro k18 s ⟨x15, x16, rfl, h⟩
  cases k18 with
  | zero => cases show none = some r from h
  | succ k18 =>
   replace h : F20_l0_b N (F20_l0 N k18) x15 x16 = some r := h
   unfold F20_l0_b at h
   refine sq <| nR K (tn 2) ?_
   refine cnd h ?_ ?_<;>intro h
   ·refine VW.skip <| VW.block ?_
    obtain⟨g19,h⟩:=gS h
    refine nR K (pu 2 (an (show ((128 : Int) ≠ 0) from by decide) (pu 3 (an g19 (tn 1))))) <| nE K (pu 1 (an (show ((128 : Int) ≠ 0) from by decide) (tn 1))) ?_
    exact aro [.ren [3, 4] [0]] ⟨(x15 ++ ([(IntKind.u8.wrap (wr ((128 : Int) + (Int.tmod x16 (128 : Int)))))])), (wr (Int.tdiv x16 (128 : Int))), rfl, h⟩
   refine VW.exit ?_
   exact arv [.ren [3, 4] [0]] ⟨x15, x16, rfl, h⟩
 rintro s ⟨x10, x11, rfl, h⟩
 unfold F20_j0 at h
 obtain⟨g12,h⟩:=gS h
 refine nR K (pu 4 (an g12 (tn 1))) ?_
 cases h; exact VW.ret (rt [some 0])
def F47_j0 (N : Nat) (x16 : (List Int)) : Option ((List Int)) :=
  some x16
def F47_l0_b (N : Nat) (a0 : (List Int)) (nx28 : (List Int) → Int → Option ((List Int))) (x22 : (List Int)) (x23 : Int) : Option ((List Int)) :=
  cond (decide (x23 < (a0.length : Int))) (gd (InR x23 a0.length) (gd (x22.length + ([(a0.getD x23.toNat (Ty.dflt (.int .u8)))]).length ≤ lim (.int .u8)) (nx28 (x22 ++ ([(a0.getD x23.toNat (Ty.dflt (.int .u8)))])) (IntKind.i64.wrap (x23 + (1 : Int)))))) (F47_j0 N x22)
def F47_l0 (N : Nat) (a0 : (List Int)) := loopF (F47_l0_b N a0) (fun _ _ => none)
theorem F47_l0_s N a0 {k} (hk : 0 < k) x22 x23 : F47_l0 N a0 k x22 x23 = F47_l0_b N a0 (F47_l0 N a0 (k - 1)) x22 x23 := by cases k;cases hk;rfl
def F47 (N : Nat) (a0 : (List Int)) : Option ((List Int)) :=
  F47_l0 N a0 N ([]) (0 : Int)
theorem ok47 N a0 {r} (h : F47 N a0 = some r) : Con prog 47 [Vv (.sl (.int .u8)) a0] [.lf (.own (.int .u8) r .dp)] := by
 refine ctr [.lf (.own (.int .u8) .dp)] K func47 rfl fun w0 E0 ht => ?_
 unfold F47 at h
 show VW _ _ _ _ _ (retQ _ _ _ _) _
 refine nR K (tn 1) <| nR K (tn 2) ?_
 refine VW.join (fun s => ∃ x16, s = ⟨[(3, hh 0)], [ar 0 (.int .u8) x16 .dp]⟩ ∧ F47_j0 N x16 = some r) ?_ ?_
 ·refine nR K (tn 1) <| VW.block <| lop (fun k s => ∃ x22 x23, s = ⟨[(0, Vv (.sl (.int .u8)) a0), (3, hh 0), (4, I x23)], [ar 0 (.int .u8) x22 .dp]⟩ ∧ F47_l0 N a0 k x22 x23 = some r) N [.nilS 3 (.int .u8) .dp, .ren [0, 3, 4] [0]] ⟨[], (0 : Int), rfl, h⟩ ?_
  rintro k28 s ⟨x22, x23, rfl, h⟩
  cases k28 with
  | zero => cases show none = some r from h
  | succ k28 =>
   replace h : F47_l0_b N a0 (F47_l0 N a0 k28) x22 x23 = some r := h
   unfold F47_l0_b at h
   refine sq <| nR K (tn 4) ?_
   refine cnd h ?_ ?_<;>intro h
   ·refine VW.skip <| sq <| VW.block ?_
    obtain⟨g31,h⟩:=gS h
    obtain⟨g32,h⟩:=gS h
    refine nE K (pu 3 (an g31 (pu 2 (an g32 (tn 1))))) <| nE K (tn 3) ?_
    exact aro [.ren [0, 3, 4] [0]] ⟨(x22 ++ ([(a0.getD x23.toNat (Ty.dflt (.int .u8)))])), (wr (x23 + (1 : Int))), rfl, h⟩
   refine VW.exit ?_
   exact arv [.ren [3] [0]] ⟨x22, rfl, h⟩
 rintro s ⟨x16, rfl, h⟩
 unfold F47_j0 at h
 refine nR K (tn 2) ?_
 cases h; exact VW.ret (rt [some 0])
def F21_j0 (N : Nat) (x17 : (List Int)) : Option ((List Int)) :=
  some x17
def F21_l0_b (N : Nat) (a1 : (List Int)) (nx29 : (List Int) → Int → Option ((List Int))) (x23 : (List Int)) (x24 : Int) : Option ((List Int)) :=
  cond (decide (x24 < (a1.length : Int))) (gd (InR x24 a1.length) (gd (x23.length + ([(a1.getD x24.toNat (Ty.dflt (.int .u8)))]).length ≤ lim (.int .u8)) (nx29 (x23 ++ ([(a1.getD x24.toNat (Ty.dflt (.int .u8)))])) (IntKind.i64.wrap (x24 + (1 : Int)))))) (F21_j0 N x23)
def F21_l0 (N : Nat) (a1 : (List Int)) := loopF (F21_l0_b N a1) (fun _ _ => none)
theorem F21_l0_s N a1 {k} (hk : 0 < k) x23 x24 : F21_l0 N a1 k x23 x24 = F21_l0_b N a1 (F21_l0 N a1 (k - 1)) x23 x24 := by cases k;cases hk;rfl
def F21 (N : Nat) (a0 : (List Int)) (a1 : (List Int)) : Option ((List Int)) :=
  andO (F47 N a0) fun y1 => F21_l0 N a1 N y1 (0 : Int)
theorem ok21 N a0 a1 {r} (h : F21 N a0 a1 = some r) : Con prog 21 [Vv (.sl (.int .u8)) a0, Vv (.sl (.int .u8)) a1] [.lf (.own (.int .u8) r .dp)] := by
 refine ctr [.lf (.own (.int .u8) .dp)] K func21 rfl fun w0 E0 ht => ?_
 unfold F21 at h
 show VW _ _ _ _ _ (retQ _ _ _ _) _
 refine nR K (tn 1) <| sq <| VW.region <| nG K 1 (tn 1) ?_
 obtain⟨y1,hy,h⟩:=aS h
 refine clc false [.t (.sl (.int .u8))] [] (some 8) K (ok47 N _ hy) <| nN K (tn 1) ?_
 refine VW.join (fun s => ∃ x17, s = ⟨[(5, hh 0)], [ar 0 (.int .u8) x17 .dp]⟩ ∧ F21_j0 N x17 = some r) ?_ ?_
 ·refine nR K (tn 1) <| VW.block <| lop (fun k s => ∃ x23 x24, s = ⟨[(1, Vv (.sl (.int .u8)) a1), (5, hh 0), (6, I x24)], [ar 0 (.int .u8) x23 .dp]⟩ ∧ F21_l0 N a1 k x23 x24 = some r) N [.ren [1, 5, 6] [0]] ⟨y1, (0 : Int), rfl, h⟩ ?_
  rintro k29 s ⟨x23, x24, rfl, h⟩
  cases k29 with
  | zero => cases show none = some r from h
  | succ k29 =>
   replace h : F21_l0_b N a1 (F21_l0 N a1 k29) x23 x24 = some r := h
   unfold F21_l0_b at h
   refine sq <| nR K (tn 4) ?_
   refine cnd h ?_ ?_<;>intro h
   ·refine VW.skip <| sq <| VW.block ?_
    obtain⟨g32,h⟩:=gS h
    obtain⟨g33,h⟩:=gS h
    refine nE K (pu 3 (an g32 (pu 2 (an g33 (tn 1))))) <| nE K (tn 3) ?_
    exact aro [.ren [1, 5, 6] [0]] ⟨(x23 ++ ([(a1.getD x24.toNat (Ty.dflt (.int .u8)))])), (wr (x24 + (1 : Int))), rfl, h⟩
   refine VW.exit ?_
   exact arv [.ren [5] [0]] ⟨x23, rfl, h⟩
 rintro s ⟨x17, rfl, h⟩
 unfold F21_j0 at h
 refine nR K (tn 2) ?_
 cases h; exact VW.ret (rt [some 0])
def F48 (N : Nat) (a0 : ByteArray) : Option ((List Int)) :=
  andO (F77 N a0) fun y2 => cond (!y2) (some ([])) (andO (F20 N (a0.size : Int)) fun y3 => andO (F21 N y3 (bytesOf a0)) fun y4 => some y4)
theorem ok48 N a0 {r} (h : F48 N a0 = some r) : Con prog 48 [S a0] [.lf (.own (.int .u8) r .dp)] := by
 refine ctr [.lf (.own (.int .u8) .dp)] K func48 rfl fun w0 E0 ht => ?_
 unfold F48 at h
 show VW _ _ _ _ _ (retQ _ _ _ _) _
 refine nR K (tn 1) <| sq <| sq <| VW.region <| nG K 1 (tn 1) ?_
 obtain⟨y2,hy,h⟩:=aS h
 refine clc false [.t .str] [] (some 4) K (ok77 N _ hy) <| nN K (tn 1) ?_
 refine cnd h ?_ ?_<;>intro h
 ·refine nR K (tn 1) ?_
  cases h; exact VW.ret (rt [none])
 refine VW.skip <| sq <| VW.region <| nG K 2 (tn 2) ?_
 obtain⟨y3,hy,h⟩:=aS h
 refine clc false [.t (.int .i64)] [] (some 8) K (ok20 N _ hy) <| nG K 2 (tn 2) ?_
 obtain⟨y4,hy,h⟩:=aS h
 refine clc true [.t (.sl (.int .u8)), .t (.sl (.int .u8))] [] (some 11) K (ok21 N _ _ hy) <| nN K (tn 1) ?_
 cases h; exact VW.ret (rt [some 1])
def F49_j0 (N : Nat) (x22 : (List Int)) : Option ((List Int)) :=
  some x22
def F49_l0_b (N : Nat) (a1 : (List Int)) (nx38 : (List Int) → Int → Option ((List Int))) (x30 : (List Int)) (x31 : Int) : Option ((List Int)) :=
  cond (decide (x31 < (a1.length : Int))) (gd (InR x31 a1.length) (andO (F20 N (a1.getD x31.toNat (Ty.dflt (.int .i64)))) fun y43 => andO (F21 N x30 y43) fun y44 => nx38 y44 (IntKind.i64.wrap (x31 + (1 : Int))))) (F49_j0 N x30)
def F49_l0 (N : Nat) (a1 : (List Int)) := loopF (F49_l0_b N a1) (fun _ _ => none)
theorem F49_l0_s N a1 {k} (hk : 0 < k) x30 x31 : F49_l0 N a1 k x30 x31 = F49_l0_b N a1 (F49_l0 N a1 (k - 1)) x30 x31 := by cases k;cases hk;rfl
def F49 (N : Nat) (a0 : (List Int)) (a1 : (List Int)) : Option ((List Int)) :=
  F49_l0 N a1 N a0 (0 : Int)
theorem ok49 N a0 a1 {r} (h : F49 N a0 a1 = some r) : Con prog 49 [Vv (.sl (.int .u8)) a0, Vv (.sl (.int .i64)) a1] [.lf (.v (.sl (.int .u8)) r)] := by
 refine ctr [.lf (.v (.sl (.int .u8)))] K func49 rfl fun w0 E0 ht => ?_
 unfold F49 at h
 show VW _ _ _ _ _ (retQ _ _ _ _) _
 refine nR K (tn 1) ?_
 refine VW.join (fun s => ∃ x22, s = ⟨[(0, Vv (.sl (.int .u8)) x22)], []⟩ ∧ F49_j0 N x22 = some r) ?_ ?_
 ·refine nR K (tn 1) <| VW.block <| lop (fun k s => ∃ x30 x31, s = ⟨[(0, Vv (.sl (.int .u8)) x30), (1, Vv (.sl (.int .i64)) a1), (5, I x31)], []⟩ ∧ F49_l0 N a1 k x30 x31 = some r) N [.ren [0, 1, 5] []] ⟨a0, (0 : Int), rfl, h⟩ ?_
  rintro k38 s ⟨x30, x31, rfl, h⟩
  cases k38 with
  | zero => cases show none = some r from h
  | succ k38 =>
   replace h : F49_l0_b N a1 (F49_l0 N a1 k38) x30 x31 = some r := h
   unfold F49_l0_b at h
   refine sq <| nR K (tn 4) ?_
   refine cnd h ?_ ?_<;>intro h
   ·refine VW.skip <| sq <| VW.block <| VW.region ?_
    obtain⟨g42,h⟩:=gS h
    refine nG K 5 (pu 3 (an g42 (tn 1))) ?_
    obtain⟨y43,hy,h⟩:=aS h
    refine clc false [.t (.int .i64)] [] (some 17) K (ok20 N _ hy) ?_
    obtain⟨y44,hy,h⟩:=aS h
    refine clc true [.t (.sl (.int .u8)), .t (.sl (.int .u8))] [] (some 18) K (ok21 N _ _ hy) <| nN K (tn 1) <| nE K (tn 3) ?_
    exact aro [.frz 1, .ren [0, 1, 5] []] ⟨y44, (wr (x31 + (1 : Int))), rfl, h⟩
   refine VW.exit ?_
   exact arv [.ren [0] []] ⟨x30, rfl, h⟩
 rintro s ⟨x22, rfl, h⟩
 unfold F49_j0 at h
 refine nR K (tn 2) ?_
 cases h; exact VW.ret (rt [])
def F50 (N : Nat) (a0 : Bool) : Option (Int) :=
  cond a0 (some (1 : Int)) (some (0 : Int))
theorem ok50 N a0 {r} (h : F50 N a0 = some r) : Con prog 50 [B a0] [.lf (.v (.int .i64) r)] := by
 refine ctr [.lf (.v (.int .i64))] K func50 rfl fun w0 E0 ht => ?_
 unfold F50 at h
 show VW _ _ _ _ _ (retQ _ _ _ _) _
 refine nR K (tn 1) <| sq <| nR K (tn 1) ?_
 refine cnd h ?_ ?_<;>intro h
 ·refine nR K (tn 1) ?_
  cases h; exact VW.ret (rt [])
 refine VW.skip <| nR K (tn 1) ?_
 cases h; exact VW.ret (rt [])
def F51_j0 (N : Nat) (x47 : (List Int)) : Option ((List Int)) :=
  some x47
def F51_l0_b (N : Nat) (a0 : (List Int)) (nx79 : (List Int) → Int → Option ((List Int))) (x63 : (List Int)) (x64 : Int) : Option ((List Int)) :=
  cond (decide (x64 < (a0.length : Int))) (gd (InR x64 a0.length) (andO (F46 N (a0.getD x64.toNat (Ty.dflt (.int .i64)))) fun y90 => cond (!y90) (some ([])) (gd (InR x64 a0.length) (andO (F20 N (a0.getD x64.toNat (Ty.dflt (.int .i64)))) fun y92 => andO (F21 N x63 y92) fun y93 => nx79 y93 (IntKind.i64.wrap (x64 + (1 : Int))))))) (F51_j0 N x63)
def F51_l0 (N : Nat) (a0 : (List Int)) := loopF (F51_l0_b N a0) (fun _ _ => none)
theorem F51_l0_s N a0 {k} (hk : 0 < k) x63 x64 : F51_l0 N a0 k x63 x64 = F51_l0_b N a0 (F51_l0 N a0 (k - 1)) x63 x64 := by cases k;cases hk;rfl
def F51 (N : Nat) (a0 : (List Int)) : Option ((List Int)) :=
  cond (decide ((a0.length : Int) > (300 : Int))) (some ([])) (andO (F20 N (a0.length : Int)) fun y1 => F51_l0 N a0 N y1 (0 : Int))
theorem ok51 N a0 {r} (h : F51 N a0 = some r) : Con prog 51 [Vv (.sl (.int .i64)) a0] [.lf (.own (.int .u8) r .dp)] := by
 refine ctr [.lf (.own (.int .u8) .dp)] K func51 rfl fun w0 E0 ht => ?_
 unfold F51 at h
 show VW _ _ _ _ _ (retQ _ _ _ _) _
 refine nR K (tn 1) <| sq <| nR K (tn 3) ?_
 refine cnd h ?_ ?_<;>intro h
 ·refine nR K (tn 1) ?_
  cases h; exact VW.ret (rt [none])
 refine VW.skip <| sq <| VW.region <| nG K 2 (tn 2) ?_
 obtain⟨y1,hy,h⟩:=aS h
 refine clc false [.t (.int .i64)] [] (some 10) K (ok20 N _ hy) <| nN K (tn 1) ?_
 refine VW.join (fun s => ∃ x47, s = ⟨[(3, hh 0)], [ar 0 (.int .u8) x47 .dp]⟩ ∧ F51_j0 N x47 = some r) ?_ ?_
 ·refine nR K (tn 1) <| VW.block <| lop (fun k s => ∃ x63 x64, s = ⟨[(0, Vv (.sl (.int .i64)) a0), (3, hh 0), (4, I x64)], [ar 0 (.int .u8) x63 .dp]⟩ ∧ F51_l0 N a0 k x63 x64 = some r) N [.ren [0, 3, 4] [0]] ⟨y1, (0 : Int), rfl, h⟩ ?_
  rintro k79 s ⟨x63, x64, rfl, h⟩
  cases k79 with
  | zero => cases show none = some r from h
  | succ k79 =>
   replace h : F51_l0_b N a0 (F51_l0 N a0 k79) x63 x64 = some r := h
   unfold F51_l0_b at h
   refine sq <| nR K (tn 4) ?_
   refine cnd h ?_ ?_<;>intro h
   ·refine VW.skip <| sq <| VW.block <| sq <| sq <| VW.region ?_
    obtain⟨g89,h⟩:=gS h
    refine nG K 4 (pu 2 (an g89 (tn 1))) ?_
    obtain⟨y90,hy,h⟩:=aS h
    refine clc false [.t (.int .i64)] [] (some 21) K (ok46 N _ hy) <| nN K (tn 1) ?_
    refine cnd h ?_ ?_<;>intro h
    ·refine nR K (tn 1) ?_
     cases h; exact VW.ret (rt [none])
    refine VW.skip <| VW.region ?_
    obtain⟨g91,h⟩:=gS h
    refine nG K 5 (pu 3 (an g91 (tn 1))) ?_
    obtain⟨y92,hy,h⟩:=aS h
    refine clc false [.t (.int .i64)] [] (some 28) K (ok20 N _ hy) ?_
    obtain⟨y93,hy,h⟩:=aS h
    refine clc true [.t (.sl (.int .u8)), .t (.sl (.int .u8))] [] (some 29) K (ok21 N _ _ hy) <| nN K (tn 1) <| nE K (tn 3) ?_
    exact aro [.ren [0, 3, 4] [2]] ⟨y93, (wr (x64 + (1 : Int))), rfl, h⟩
   refine VW.exit ?_
   exact arv [.ren [3] [0]] ⟨x63, rfl, h⟩
 rintro s ⟨x47, rfl, h⟩
 unfold F51_j0 at h
 refine nR K (tn 2) ?_
 cases h; exact VW.ret (rt [some 0])
def F22 (N : Nat) (a0 : Z44) : Option ((List Int)) :=
  andO (F44 N a0) fun y2 => cond (!y2) (some ([])) (andO (F20 N a0.1) fun y3 => cond (a0.1 == (0 : Int)) (andO (F48 N a0.2.1) fun y14 => andO (F21 N y3 y14) fun y15 => some y15) (cond (a0.1 == (1 : Int)) (andO (F50 N a0.2.2.2.2.2.1) fun y16 => andO (F49 N y3 ([a0.2.2.1, a0.2.2.2.1, y16, a0.2.2.2.2.1])) fun y17 => some y17) (cond (a0.1 == (2 : Int)) (andO (F51 N a0.2.2.2.2.2.2) fun y18 => andO (F21 N y3 y18) fun y19 => some y19) (cond (a0.1 == (3 : Int)) (andO (F49 N y3 ([a0.2.2.1, a0.2.2.2.2.1])) fun y20 => some y20) (cond (a0.1 == (5 : Int)) (andO (F49 N y3 ([a0.2.2.1])) fun y21 => some y21) (cond (a0.1 == (6 : Int)) (andO (F50 N a0.2.2.2.2.2.1) fun y22 => andO (F49 N y3 ([y22, a0.2.2.2.2.1])) fun y23 => some y23) (some y3)))))))
theorem ok22 N a0 {r} (h : F22 N a0 = some r) : Con prog 22 [.agg (lv Y44 a0)] [.lf (.v (.sl (.int .u8)) r)] := by
 refine ctr [.lf (.v (.sl (.int .u8)))] K func22 rfl fun w0 E0 ht => ?_
 unfold F22 at h
 show VW _ _ _ _ _ (retQ _ _ _ _) _
 refine nR K (tn 2) <| sq <| sq <| VW.region <| nG K 1 (tn 1) ?_
 obtain⟨y2,hy,h⟩:=aS h
 refine clc false [.t Y44] [] (some 5) K (ok44 N _ hy) <| nN K (tn 1) ?_
 refine cnd h ?_ ?_<;>intro h
 ·refine nR K (tn 1) ?_
  cases h; exact VW.ret (rt [])
 refine VW.skip <| sq <| VW.region <| nG K 2 (tn 2) ?_
 obtain⟨y3,hy,h⟩:=aS h
 refine clc false [.t (.int .i64)] [] (some 9) K (ok20 N _ hy) <| nN K (tn 1) <| sq <| nR K (tn 2) <| VW.block <| nR K (tn 2) ?_
 refine cnd h ?_ ?_<;>intro h
 ·refine sq <| VW.region <| nG K 3 (tn 3) ?_
  obtain⟨y14,hy,h⟩:=aS h
  refine clc false [.t .str] [] (some 17) K (ok48 N _ hy) ?_
  obtain⟨y15,hy,h⟩:=aS h
  refine clc true [.t (.sl (.int .u8)), .t (.sl (.int .u8))] [] (some 18) K (ok21 N _ _ hy) <| nN K (tn 1) ?_
  cases h; exact VW.ret (rt [])
 refine nR K (tn 2) ?_
 refine cnd h ?_ ?_<;>intro h
 ·refine sq ?_
  obtain⟨y16,hy16,h⟩:=aS h
  obtain⟨y17,hy17,h⟩:=aS h
  refine dr K [(7, .cl [] (some 28) [.lf (.v (.int .i64) y16)]), (11, .cl [1, 2] (some 32) [.lf (.v (.sl (.int .u8)) y17)])] [(7, 0), (11, 1)] [10, 11] [2] [] (tn 13) ⟨qC false [.t .bool] [] [] (some 28) K (ok50 N _ hy16), qC false [.t (.sl (.int .u8)), .t (.sl (.int .i64))] [] [1, 2] (some 32) K (ok49 N _ _ hy17), trivial⟩ ?_
  cases h; exact VW.ret (rt [])
 refine nR K (tn 2) ?_
 refine cnd h ?_ ?_<;>intro h
 ·refine sq <| VW.region <| nG K 3 (tn 3) ?_
  obtain⟨y18,hy,h⟩:=aS h
  refine clc false [.t (.sl (.int .i64))] [] (some 38) K (ok51 N _ hy) ?_
  obtain⟨y19,hy,h⟩:=aS h
  refine clc true [.t (.sl (.int .u8)), .t (.sl (.int .u8))] [] (some 39) K (ok21 N _ _ hy) <| nN K (tn 1) ?_
  cases h; exact VW.ret (rt [])
 refine nR K (tn 2) ?_
 refine cnd h ?_ ?_<;>intro h
 ·refine sq <| VW.region <| nG K 6 (tn 6) ?_
  obtain⟨y20,hy,h⟩:=aS h
  refine VO.ghl [.frz 1, .frz 2] <| clc false [.t (.sl (.int .u8)), .t (.sl (.int .i64))] [] (some 48) K (ok49 N _ _ hy) <| nN K (tn 1) ?_
  cases h; exact VW.ret (rt [])
 refine nR K (tn 2) ?_
 refine cnd h ?_ ?_<;>intro h
 ·refine sq <| VW.region <| nG K 4 (tn 4) ?_
  obtain⟨y21,hy,h⟩:=aS h
  refine VO.ghl [.frz 1, .frz 2] <| clc false [.t (.sl (.int .u8)), .t (.sl (.int .i64))] [] (some 55) K (ok49 N _ _ hy) <| sN K [2] [] ⟨[(2, Vv (.sl (.int .u8)) y21)], []⟩ (tn 1) ?_
  cases h; exact VW.ret (rt [])
 refine nR K (tn 2) ?_
 refine cnd h ?_ ?_<;>intro h
 ·refine sq ?_
  obtain⟨y22,hy22,h⟩:=aS h
  obtain⟨y23,hy23,h⟩:=aS h
  refine dr K [(3, .cl [] (some 61) [.lf (.v (.int .i64) y22)]), (7, .cl [1, 2] (some 65) [.lf (.v (.sl (.int .u8)) y23)])] [(3, 0), (7, 1)] [6, 7] [2] [] (tn 9) ⟨qC false [.t .bool] [] [] (some 61) K (ok50 N _ hy22), qC false [.t (.sl (.int .u8)), .t (.sl (.int .i64))] [] [1, 2] (some 65) K (ok49 N _ _ hy23), trivial⟩ ?_
  cases h; exact VW.ret (rt [])
 refine VW.skip <| sR K [2] [1] ⟨[(2, hh 0)], [ar 0 (.int .u8) y3 .dp]⟩ (tn 2) ?_
 cases h; exact VW.ret (rt [])
def F29_j0 (N : Nat) (x10 : Int) : Option (Int) :=
  some x10
def F29_l0_b (N : Nat) (a0 : (List Int)) (nx18 : Int → Int → Option (Int)) (x14 : Int) (x15 : Int) : Option (Int) :=
  cond (decide (x15 < (a0.length : Int))) (gd (InR x15 a0.length) (nx18 (Int.tmod (IntKind.i64.wrap ((IntKind.i64.wrap ((269 : Int) * x14)) + (IntKind.i64.wrap (a0.getD x15.toNat (Ty.dflt (.int .u8)))))) (999983 : Int)) (IntKind.i64.wrap (x15 + (1 : Int))))) (F29_j0 N x14)
def F29_l0 (N : Nat) (a0 : (List Int)) := loopF (F29_l0_b N a0) (fun _ _ => none)
theorem F29_l0_s N a0 {k} (hk : 0 < k) x14 x15 : F29_l0 N a0 k x14 x15 = F29_l0_b N a0 (F29_l0 N a0 (k - 1)) x14 x15 := by cases k;cases hk;rfl
def F29 (N : Nat) (a0 : (List Int)) : Option (Int) :=
  F29_l0 N a0 N (5 : Int) (0 : Int)
theorem ok29 N a0 {r} (h : F29 N a0 = some r) : Con prog 29 [Vv (.sl (.int .u8)) a0] [.lf (.v (.int .i64) r)] := by
 refine ctr [.lf (.v (.int .i64))] K func29 rfl fun w0 E0 ht => ?_
 unfold F29 at h
 show VW _ _ _ _ _ (retQ _ _ _ _) _
 refine nR K (tn 1) <| nR K (tn 1) ?_
 refine VW.join (fun s => ∃ x10, s = ⟨[(3, I x10)], []⟩ ∧ F29_j0 N x10 = some r) ?_ ?_
 ·refine nR K (tn 1) <| VW.block <| lop (fun k s => ∃ x14 x15, s = ⟨[(0, Vv (.sl (.int .u8)) a0), (3, I x14), (4, I x15)], []⟩ ∧ F29_l0 N a0 k x14 x15 = some r) N [.ren [0, 3, 4] []] ⟨(5 : Int), (0 : Int), rfl, h⟩ ?_
  rintro k18 s ⟨x14, x15, rfl, h⟩
  cases k18 with
  | zero => cases show none = some r from h
  | succ k18 =>
   replace h : F29_l0_b N a0 (F29_l0 N a0 k18) x14 x15 = some r := h
   unfold F29_l0_b at h
   refine sq <| nR K (tn 4) ?_
   refine cnd h ?_ ?_<;>intro h
   ·refine VW.skip <| sq <| VW.block ?_
    obtain⟨g20,h⟩:=gS h
    refine nE K (pu 4 (an g20 (pu 3 (an (show ((999983 : Int) ≠ 0) from by decide) (tn 1))))) <| nE K (tn 3) ?_
    exact aro [.ren [0, 3, 4] []] ⟨(Int.tmod (wr ((wr ((269 : Int) * x14)) + (wr (a0.getD x15.toNat (Ty.dflt (.int .u8)))))) (999983 : Int)), (wr (x15 + (1 : Int))), rfl, h⟩
   refine VW.exit ?_
   exact arv [.ren [3] []] ⟨x14, rfl, h⟩
 rintro s ⟨x10, rfl, h⟩
 unfold F29_j0 at h
 refine nR K (tn 2) ?_
 cases h; exact VW.ret (rt [])
def F23 (N : Nat) (a0 : (List Int)) : Option ((List Int) × Bool) :=
  cond (decide ((a0.length : Int) > (4000 : Int))) (some ([], false)) (gd (0 < ([(80 : Int), (83 : Int)]).length) (andO (F20 N (a0.length : Int)) fun y2 => andO (F21 N ([(80 : Int), (83 : Int)]) y2) fun y3 => andO (F21 N y3 a0) fun y4 => andO (F29 N a0) fun y5 => andO (F20 N y5) fun y6 => andO (F21 N y4 y6) fun y7 => some (y7, true)))
theorem ok23 N a0 {r} (h : F23 N a0 = some r) : Con prog 23 [Vv (.sl (.int .u8)) a0] [.lf (.own (.int .u8) r.1 .dp), .lf (.v .bool r.2)] := by
 refine ctr [.lf (.own (.int .u8) .dp), .lf (.v .bool)] K func23 rfl fun w0 E0 ht => ?_
 unfold F23 at h
 show VW _ _ _ _ _ (retQ _ _ _ _) _
 refine nR K (tn 2) <| sq <| nR K (tn 3) ?_
 refine cnd h ?_ ?_<;>intro h
 ·refine nR K (tn 2) ?_
  cases h; exact VW.ret (rt [none])
 refine VW.skip <| sq <| VW.region <| nG K 1 (tn 1) ?_
 obtain⟨g1,h⟩:=gS h
 refine VO.mark (d := 9) (φ := 0 < ([(80 : Int), (83 : Int)]).length) (v := Vv (.sl (.int .u8)) ([(80 : Int), (83 : Int)])) (H' := [none]) K (by kernel_rfl) g1 <| nG K 2 (tn 2) ?_
 obtain⟨y2,hy,h⟩:=aS h
 refine clc false [.t (.int .i64)] [] (some 12) K (ok20 N _ hy) ?_
 obtain⟨y3,hy,h⟩:=aS h
 refine clc true [.t (.sl (.int .u8)), .t (.sl (.int .u8))] [] (some 13) K (ok21 N _ _ hy) <| nN K (tn 1) <| sq <| VW.region <| nG K 2 (tn 2) ?_
 obtain⟨y4,hy,h⟩:=aS h
 refine clc true [.t (.sl (.int .u8)), .t (.sl (.int .u8))] [] (some 16) K (ok21 N _ _ hy) <| nG K 1 (tn 1) ?_
 obtain⟨y5,hy,h⟩:=aS h
 refine clc false [.t (.sl (.int .u8))] [] (some 18) K (ok29 N _ hy) ?_
 obtain⟨y6,hy,h⟩:=aS h
 refine clc false [.t (.int .i64)] [] (some 19) K (ok20 N _ hy) ?_
 obtain⟨y7,hy,h⟩:=aS h
 refine clc true [.t (.sl (.int .u8)), .t (.sl (.int .u8))] [] (some 20) K (ok21 N _ _ hy) <| nN K (tn 2) ?_
 cases h; exact VW.ret (rt [some 5])
def F6_j0 (N : Nat) (x25 : (List Int)) : Option ((List Int) × Bool) :=
  andO (F23 N x25) fun y26 => some (y26.1, y26.2)
def F6_l0_b (N : Nat) (a0 : (List Z44)) (nx42 : (List Int) → Int → Option ((List Int) × Bool)) (x34 : (List Int)) (x35 : Int) : Option ((List Int) × Bool) :=
  cond (decide (x35 < (a0.length : Int))) (gd (InR x35 a0.length) (andO (F22 N (a0.getD x35.toNat (Ty.dflt Y44))) fun y47 => andO (F21 N x34 y47) fun y48 => nx42 y48 (IntKind.i64.wrap (x35 + (1 : Int))))) (F6_j0 N x34)
def F6_l0 (N : Nat) (a0 : (List Z44)) := loopF (F6_l0_b N a0) (fun _ _ => none)
theorem F6_l0_s N a0 {k} (hk : 0 < k) x34 x35 : F6_l0 N a0 k x34 x35 = F6_l0_b N a0 (F6_l0 N a0 (k - 1)) x34 x35 := by cases k;cases hk;rfl
def F6 (N : Nat) (a0 : (List Z44)) : Option ((List Int) × Bool) :=
  andO (F19 N a0) fun y2 => cond (!y2) (some ([], false)) (andO (F20 N (a0.length : Int)) fun y3 => F6_l0 N a0 N y3 (0 : Int))
theorem ok6 N a0 {r} (h : F6 N a0 = some r) : Con prog 6 [Vv (.sl Y44) a0] [.lf (.own (.int .u8) r.1 .dp), .lf (.v .bool r.2)] := by
 refine ctr [.lf (.own (.int .u8) .dp), .lf (.v .bool)] K func6 rfl fun w0 E0 ht => ?_
 unfold F6 at h
 show VW _ _ _ _ _ (retQ _ _ _ _) _
 refine nR K (tn 2) <| sq <| sq <| VW.region <| nG K 1 (tn 1) ?_
 obtain⟨y2,hy,h⟩:=aS h
 refine clc false [.t (.sl Y44)] [] (some 7) K (ok19 N _ hy) <| nN K (tn 1) ?_
 refine cnd h ?_ ?_<;>intro h
 ·refine nR K (tn 2) ?_
  cases h; exact VW.ret (rt [none])
 refine VW.skip <| sq <| VW.region <| nG K 2 (tn 2) ?_
 obtain⟨y3,hy,h⟩:=aS h
 refine clc false [.t (.int .i64)] [] (some 11) K (ok20 N _ hy) <| nN K (tn 1) ?_
 refine VW.join (fun s => ∃ x25, s = ⟨[(4, hh 0)], [ar 0 (.int .u8) x25 .dp]⟩ ∧ F6_j0 N x25 = some r) ?_ ?_
 ·refine nR K (tn 1) <| VW.block <| lop (fun k s => ∃ x34 x35, s = ⟨[(0, Vv (.sl Y44) a0), (4, hh 0), (5, I x35)], [ar 0 (.int .u8) x34 .dp]⟩ ∧ F6_l0 N a0 k x34 x35 = some r) N [.ren [0, 4, 5] [0]] ⟨y3, (0 : Int), rfl, h⟩ ?_
  rintro k42 s ⟨x34, x35, rfl, h⟩
  cases k42 with
  | zero => cases show none = some r from h
  | succ k42 =>
   replace h : F6_l0_b N a0 (F6_l0 N a0 k42) x34 x35 = some r := h
   unfold F6_l0_b at h
   refine sq <| nR K (tn 4) ?_
   refine cnd h ?_ ?_<;>intro h
   ·refine VW.skip <| sq <| VW.block <| VW.region ?_
    obtain⟨g46,h⟩:=gS h
    refine nG K 5 (pu 3 (an g46 (tn 1))) ?_
    obtain⟨y47,hy,h⟩:=aS h
    refine clc false [.t Y44] [] (some 23) K (ok22 N _ hy) ?_
    obtain⟨y48,hy,h⟩:=aS h
    refine clc true [.t (.sl (.int .u8)), .t (.sl (.int .u8))] [] (some 24) K (ok21 N _ _ hy) <| nN K (tn 1) <| nE K (tn 3) ?_
    exact aro [.ren [0, 4, 5] [1]] ⟨y48, (wr (x35 + (1 : Int))), rfl, h⟩
   refine VW.exit ?_
   exact arv [.ren [4] [0]] ⟨x34, rfl, h⟩
 rintro s ⟨x25, rfl, h⟩
 unfold F6_j0 at h
 refine sq <| VW.region <| nG K 1 (tn 1) ?_
 obtain⟨y26,hy,h⟩:=aS h
 refine clc true [.t (.sl (.int .u8))] [] (some 26) K (ok23 N _ hy) <| nN K (tn 4) ?_
 cases h; exact VW.ret (rt [some 1])
def F32 (N : Nat) (a0 : Int) (a1 : Int) (a2 : Int) : Option (Bool) :=
  cond (decide (a0 ≥ a1)) (some (decide (a0 ≤ a2))) (some false)
theorem ok32 N a0 a1 a2 {r} (h : F32 N a0 a1 a2 = some r) : Con prog 32 [I a0, I a1, I a2] [.lf (.v .bool r)] := by
 refine ctr [.lf (.v .bool)] K func32 rfl fun w0 E0 ht => ?_
 unfold F32 at h
 show VW _ _ _ _ _ (retQ _ _ _ _) _
 refine nR K (tn 1) <| sq <| VW.region <| nG K 4 (tn 4) ?_
 refine spC 10 h ?_ ?_<;>intro h
 ·refine nN K (tn 5) ?_
  cases h; exact VW.ret (rt [])
 refine nN K (tn 5) ?_
 cases h; exact VW.ret (rt [])
def F80_j0 (N : Nat) : Option (Int) :=
  some (-1 : Int)
def F80_l0_b (N : Nat) (a0 : (List Z44)) (p1 : Z44 → Option (Bool)) (nx29 : Int → Int → Option (Int)) (x23 : Int) (x24 : Int) : Option (Int) :=
  cond (decide (x24 < x23)) (gd (InR x24 a0.length) (andO (p1 (a0.getD x24.toNat (Ty.dflt Y44))) fun y33 => cond y33 (some x24) (nx29 x23 (IntKind.i64.wrap (x24 + (1 : Int)))))) (F80_j0 N)
def F80_l0 (N : Nat) (a0 : (List Z44)) (p1 : Z44 → Option (Bool)) := loopF (F80_l0_b N a0 p1) (fun _ _ => none)
theorem F80_l0_s N a0 (p1 : Z44 → Option (Bool)) {k} (hk : 0 < k) x23 x24 : F80_l0 N a0 p1 k x23 x24 = F80_l0_b N a0 p1 (F80_l0 N a0 p1 (k - 1)) x23 x24 := by cases k;cases hk;rfl
def F80 (N : Nat) (a0 : (List Z44)) (p1 : Z44 → Option (Bool)) : Option (Int) :=
  F80_l0 N a0 p1 N (a0.length : Int) (0 : Int)
theorem ok80 N a0 (g1 : FuncId) (p1 : Z44 → Option (Bool)) (hp1 : ∀ (z0 : Z44) (r : Bool), p1 z0 = some r → Con prog g1 [.agg (lv Y44 z0)] [.lf (.v .bool r)]) {r} (h : F80 N a0 p1 = some r) : Con prog 80 [Vv (.sl Y44) a0, .clo g1 []] [.lf (.v (.int .i64) r)] := by
 refine ctr [.lf (.v (.int .i64))] K func80 rfl fun w0 E0 ht => ?_
 unfold F80 at h
 show VW _ _ _ _ _ (retQ _ _ _ _) _
 refine nR K (tn 1) ?_
 refine VW.join (fun s => s = ⟨[], []⟩ ∧ F80_j0 N = some r) ?_ ?_
 ·refine nR K (tn 3) <| VW.block <| lop (fun k s => ∃ x23 x24, s = ⟨[(0, Vv (.sl Y44) a0), (1, .clo g1 []), (7, I x23), (8, I x24)], []⟩ ∧ F80_l0 N a0 p1 k x23 x24 = some r) N [.ren [0, 1, 7, 8] []] ⟨(a0.length : Int), (0 : Int), rfl, h⟩ ?_
  rintro k29 s ⟨x23, x24, rfl, h⟩
  cases k29 with
  | zero => cases show none = some r from h
  | succ k29 =>
   replace h : F80_l0_b N a0 p1 (F80_l0 N a0 p1 k29) x23 x24 = some r := h
   unfold F80_l0_b at h
   refine nR K (tn 1) <| sq ?_
   refine cnd h ?_ ?_<;>intro h
   ·refine VW.skip <| sq <| VW.block <| nR K (tn 2) <| sq <| VW.region ?_
    obtain⟨g32,h⟩:=gS h
    refine nG K 5 (pu 3 (an g32 (tn 1))) ?_
    obtain⟨y33,hy,h⟩:=aS h
    refine clc false [.t Y44] [] (some 16) K (hp1 _ _ hy) <| nN K (tn 0) ?_
    refine cnd h ?_ ?_<;>intro h
    ·refine nR K (tn 2) ?_
     cases h; exact VW.ret (rt [])
    refine VW.skip <| nE K (tn 2) ?_
    exact aro [.ren [0, 1, 7, 8] []] ⟨x23, (wr (x24 + (1 : Int))), rfl, h⟩
   refine VW.exit ?_
   exact arv [.ren [] []] ⟨rfl, h⟩
 rintro s ⟨rfl, h⟩
 unfold F80_j0 at h
 refine nR K (tn 1) ?_
 cases h; exact VW.ret (rt [])
def F52 (N : Nat) (a0 : (List Z44)) (p1 : Z44 → Option (Bool)) : Option (Bool) :=
  andO (F80 N a0 p1) fun y1 => some (decide (y1 ≥ (0 : Int)))
theorem ok52 N a0 (g1 : FuncId) (p1 : Z44 → Option (Bool)) (hp1 : ∀ (z0 : Z44) (r : Bool), p1 z0 = some r → Con prog g1 [.agg (lv Y44 z0)] [.lf (.v .bool r)]) {r} (h : F52 N a0 p1 = some r) : Con prog 52 [Vv (.sl Y44) a0, .clo g1 []] [.lf (.v .bool r)] := by
 refine ctr [.lf (.v .bool)] K func52 rfl fun w0 E0 ht => ?_
 unfold F52 at h
 show VW _ _ _ _ _ (retQ _ _ _ _) _
 refine nR K (tn 1) <| sq <| VW.region <| nG K 2 (tn 2) ?_
 obtain⟨y1,hy,h⟩:=aS h
 refine clc false [.t (.sl Y44), .clo []] [] (some 7) K (ok80 N _ g1  p1 hp1 hy) <| nN K (tn 2) ?_
 cases h; exact VW.ret (rt [])
def F68_j0 (N : Nat) : Option (Bool) :=
  some true
def F68_l0_b (N : Nat) (a0 : (List Int)) (a1 : (List Int)) (nx29 : Int → Int → Option (Bool)) (x23 : Int) (x24 : Int) : Option (Bool) :=
  cond (decide (x24 < x23)) (gd (InR x24 a0.length) (gd (InR x24 a1.length) (cond ((a0.getD x24.toNat (Ty.dflt (.int .i64))) != (a1.getD x24.toNat (Ty.dflt (.int .i64)))) (some false) (nx29 x23 (IntKind.i64.wrap (x24 + (1 : Int))))))) (F68_j0 N)
def F68_l0 (N : Nat) (a0 : (List Int)) (a1 : (List Int)) := loopF (F68_l0_b N a0 a1) (fun _ _ => none)
theorem F68_l0_s N a0 a1 {k} (hk : 0 < k) x23 x24 : F68_l0 N a0 a1 k x23 x24 = F68_l0_b N a0 a1 (F68_l0 N a0 a1 (k - 1)) x23 x24 := by cases k;cases hk;rfl
def F68 (N : Nat) (a0 : (List Int)) (a1 : (List Int)) : Option (Bool) :=
  cond ((a0.length : Int) != (a1.length : Int)) (some false) (F68_l0 N a0 a1 N (a0.length : Int) (0 : Int))
theorem ok68 N a0 a1 {r} (h : F68 N a0 a1 = some r) : Con prog 68 [Vv (.sl (.int .i64)) a0, Vv (.sl (.int .i64)) a1] [.lf (.v .bool r)] := by
 refine ctr [.lf (.v .bool)] K func68 rfl fun w0 E0 ht => ?_
 unfold F68 at h
 show VW _ _ _ _ _ (retQ _ _ _ _) _
 refine nR K (tn 1) <| sq <| nR K (tn 5) ?_
 refine cnd h ?_ ?_<;>intro h
 ·refine nR K (tn 1) ?_
  cases h; exact VW.ret (rt [])
 refine VW.skip ?_
 refine VW.join (fun s => s = ⟨[], []⟩ ∧ F68_j0 N = some r) ?_ ?_
 ·refine nR K (tn 3) <| VW.block <| lop (fun k s => ∃ x23 x24, s = ⟨[(0, Vv (.sl (.int .i64)) a0), (1, Vv (.sl (.int .i64)) a1), (12, I x23), (13, I x24)], []⟩ ∧ F68_l0 N a0 a1 k x23 x24 = some r) N [.ren [0, 1, 12, 13] []] ⟨(a0.length : Int), (0 : Int), rfl, h⟩ ?_
  rintro k29 s ⟨x23, x24, rfl, h⟩
  cases k29 with
  | zero => cases show none = some r from h
  | succ k29 =>
   replace h : F68_l0_b N a0 a1 (F68_l0 N a0 a1 k29) x23 x24 = some r := h
   unfold F68_l0_b at h
   refine nR K (tn 1) <| sq ?_
   refine cnd h ?_ ?_<;>intro h
   ·refine VW.skip <| sq <| VW.block <| nR K (tn 2) <| sq ?_
    obtain⟨g32,h⟩:=gS h
    obtain⟨g33,h⟩:=gS h
    refine dr K [] [] [] [0, 1, 12, 13, 24] [] (pu 2 (an g32 (pu 3 (an g33 (tn 2))))) trivial ?_
    refine cnd h ?_ ?_<;>intro h
    ·refine nR K (tn 1) ?_
     cases h; exact VW.ret (rt [])
    refine VW.skip <| nE K (tn 2) ?_
    exact aro [.ren [0, 1, 12, 13] []] ⟨x23, (wr (x24 + (1 : Int))), rfl, h⟩
   refine VW.exit ?_
   exact arv [.ren [] []] ⟨rfl, h⟩
 rintro s ⟨rfl, h⟩
 unfold F68_j0 at h
 refine nR K (tn 1) ?_
 cases h; exact VW.ret (rt [])
def F35 (N : Nat) (a0 : Z44) (a1 : Z44) : Option (Bool) :=
  cond (a0.1 == a1.1) (cond (a0.2.1.toList == a1.2.1.toList) (cond (a0.2.2.1 == a1.2.2.1) (cond (a0.2.2.2.1 == a1.2.2.2.1) (cond (a0.2.2.2.2.1 == a1.2.2.2.2.1) (cond (a0.2.2.2.2.2.1 == a1.2.2.2.2.2.1) (andO (F68 N a0.2.2.2.2.2.2 a1.2.2.2.2.2.2) fun y1 => some y1) (some false)) (some false)) (some false)) (some false)) (some false)) (some false)
theorem ok35 N a0 a1 {r} (h : F35 N a0 a1 = some r) : Con prog 35 [.agg (lv Y44 a0), .agg (lv Y44 a1)] [.lf (.v .bool r)] := by
 refine ctr [.lf (.v .bool)] K func35 rfl fun w0 E0 ht => ?_
 unfold F35 at h
 show VW _ _ _ _ _ (retQ _ _ _ _) _
 refine nR K (tn 3) <| sq <| VW.region <| nG K 6 (tn 6) ?_
 refine spC 10 h ?_ ?_<;>intro h
 ·refine nG K 7 (tn 7) ?_
  refine spC 17 h ?_ ?_<;>intro h
  ·refine nG K 7 (tn 7) ?_
   refine spC 24 h ?_ ?_<;>intro h
   ·refine nG K 7 (tn 7) ?_
    refine spC 31 h ?_ ?_<;>intro h
    ·refine nG K 7 (tn 7) ?_
     refine spC 38 h ?_ ?_<;>intro h
     ·refine nG K 7 (tn 7) ?_
      refine spC 45 h ?_ ?_<;>intro h
      ·refine nG K 4 (tn 4) <| VO.on (j := 40) (want := true) (d := 45) (b := true) rfl rfl rfl (by kernel_rfl) rfl ?_
       obtain⟨y1,hy,h⟩:=aS h
       refine clc false [.t (.sl (.int .i64)), .t (.sl (.int .i64))] [] (some 50) K (ok68 N _ _ hy) <| nN K (tn 2) ?_
       cases h; exact VW.ret (rt [])
      refine nN K (tn 7) ?_
      cases h; exact VW.ret (rt [])
     refine nN K (tn 14) ?_
     cases h; exact VW.ret (rt [])
    refine nN K (tn 21) ?_
    cases h; exact VW.ret (rt [])
   refine nN K (tn 28) ?_
   cases h; exact VW.ret (rt [])
  refine nN K (tn 35) ?_
  cases h; exact VW.ret (rt [])
 refine nN K (tn 42) ?_
 cases h; exact VW.ret (rt [])
def F56 (N : Nat) (a0 : Int) : Option (Bool) :=
  andO (F32 N a0 (-1000000 : Int) (1000000 : Int)) fun y1 => some y1
theorem ok56 N a0 {r} (h : F56 N a0 = some r) : Con prog 56 [I a0] [.lf (.v .bool r)] := by
 refine ctr [.lf (.v .bool)] K func56 rfl fun w0 E0 ht => ?_
 unfold F56 at h
 show VW _ _ _ _ _ (retQ _ _ _ _) _
 refine nR K (tn 1) <| sq <| VW.region <| nG K 1 (tn 1) ?_
 obtain⟨y1,hy,h⟩:=aS h
 refine clc false [.t (.int .i64), .t (.int .i64), .t (.int .i64)] [] (some 4) K (ok32 N _ _ _ hy) <| nN K (tn 1) ?_
 cases h; exact VW.ret (rt [])
def F81_j0 (N : Nat) (a0 : ByteArray) : Option (Bool) :=
  andO (F32 N (a0.size : Int) (1 : Int) (12 : Int)) fun y14 => some y14
def F81_j1 (N : Nat) (nx25 : Int → Int → Option (Bool)) (x20 : Int) (x21 : Int) : Option (Bool) :=
  nx25 x20 (IntKind.i64.wrap (x21 + (1 : Int)))
def F81_l0_b (N : Nat) (a0 : ByteArray) (nx25 : Int → Int → Option (Bool)) (x20 : Int) (x21 : Int) : Option (Bool) :=
  cond (decide (x21 < x20)) (gd (InR x21 a0.size) (cond (decide (((a0.data.getD x21.toNat 0).toNat : Int) ≥ (97 : Int))) (cond (!(decide (((a0.data.getD x21.toNat 0).toNat : Int) ≤ (122 : Int)))) (cond (x21 == (0 : Int)) (some false) (cond (decide (((a0.data.getD x21.toNat 0).toNat : Int) < (48 : Int))) (some false) (cond (decide (((a0.data.getD x21.toNat 0).toNat : Int) > (57 : Int))) (some false) (F81_j1 N nx25 x20 x21)))) (F81_j1 N nx25 x20 x21)) (cond (x21 == (0 : Int)) (some false) (cond (decide (((a0.data.getD x21.toNat 0).toNat : Int) < (48 : Int))) (some false) (cond (decide (((a0.data.getD x21.toNat 0).toNat : Int) > (57 : Int))) (some false) (F81_j1 N nx25 x20 x21)))))) (F81_j0 N a0)
def F81_l0 (N : Nat) (a0 : ByteArray) := loopF (F81_l0_b N a0) (fun _ _ => none)
theorem F81_l0_s N a0 {k} (hk : 0 < k) x20 x21 : F81_l0 N a0 k x20 x21 = F81_l0_b N a0 (F81_l0 N a0 (k - 1)) x20 x21 := by cases k;cases hk;rfl
def F81 (N : Nat) (a0 : ByteArray) : Option (Bool) :=
  F81_l0 N a0 N (a0.size : Int) (0 : Int)
theorem ok81 N a0 {r} (h : F81 N a0 = some r) : Con prog 81 [S a0] [.lf (.v .bool r)] := by
 refine ctr [.lf (.v .bool)] K func81 rfl fun w0 E0 ht => ?_
 unfold F81 at h
 show VW _ _ _ _ _ (retQ _ _ _ _) _
 refine nR K (tn 1) ?_
 refine VW.join (fun s => s = ⟨[(0, S a0)], []⟩ ∧ F81_j0 N a0 = some r) ?_ ?_
 ·refine nR K (tn 3) <| VW.block <| lop (fun k s => ∃ x20 x21, s = ⟨[(0, S a0), (7, I x20), (8, I x21)], []⟩ ∧ F81_l0 N a0 k x20 x21 = some r) N [.ren [0, 7, 8] []] ⟨(a0.size : Int), (0 : Int), rfl, h⟩ ?_
  rintro k25 s ⟨x20, x21, rfl, h⟩
  cases k25 with
  | zero => cases show none = some r from h
  | succ k25 =>
   replace h : F81_l0_b N a0 (F81_l0 N a0 k25) x20 x21 = some r := h
   unfold F81_l0_b at h
   refine nR K (tn 1) <| sq ?_
   refine cnd h ?_ ?_<;>intro h
   ·refine VW.skip ?_
    refine VW.join (fun s => s = ⟨[(0, S a0), (7, I x20), (8, I x21)], []⟩ ∧ F81_j1 N (F81_l0 N a0 k25) x20 x21 = some r) ?_ ?_
    ·refine VW.block <| nR K (tn 2) ?_
     obtain⟨g28,h⟩:=gS h
     refine nR K (pu 2 (an g28 (tn 1))) <| sq <| VW.region <| nG K 3 (tn 3) ?_
     refine spC 16 h ?_ ?_<;>intro h
     ·refine nN K (tn 4) <| sq <| VW.region <| nG K 3 (tn 3) ?_
      refine spC 22 h ?_ ?_<;>intro h
      ·refine nG K 3 (tn 3) ?_
       refine spC 25 h ?_ ?_<;>intro h
       ·refine nN K (tn 8) ?_
        refine VW.cond (b := true) (by kernel_rfl) (fun _ => ?_) (fun h' => nomatch h')
        refine nR K (tn 1) ?_
        cases h; exact VW.ret (rt [])
       refine nG K 4 (tn 4) ?_
       refine spC 29 h ?_ ?_<;>intro h
       ·refine nN K (tn 4) ?_
        refine VW.cond (b := true) (by kernel_rfl) (fun _ => ?_) (fun h' => nomatch h')
        refine nR K (tn 1) ?_
        cases h; exact VW.ret (rt [])
       refine nN K (tn 4) ?_
       refine cnd h ?_ ?_<;>intro h
       ·refine nR K (tn 1) ?_
        cases h; exact VW.ret (rt [])
       refine VW.skip ?_
       exact arv [.ren [0, 7, 8] []] ⟨rfl, h⟩
      refine nN K (tn 11) ?_
      refine VW.cond (b := false) (by kernel_rfl) (fun h' => nomatch h') (fun _ => ?_)
      refine VW.skip ?_
      exact arv [.ren [0, 7, 8] []] ⟨rfl, h⟩
     refine nN K (tn 4) <| sq <| VW.region <| nG K 6 (tn 6) ?_
     refine spC 25 h ?_ ?_<;>intro h
     ·refine nN K (tn 8) ?_
      refine VW.cond (b := true) (by kernel_rfl) (fun _ => ?_) (fun h' => nomatch h')
      refine nR K (tn 1) ?_
      cases h; exact VW.ret (rt [])
     refine nG K 4 (tn 4) ?_
     refine spC 29 h ?_ ?_<;>intro h
     ·refine nN K (tn 4) ?_
      refine VW.cond (b := true) (by kernel_rfl) (fun _ => ?_) (fun h' => nomatch h')
      refine nR K (tn 1) ?_
      cases h; exact VW.ret (rt [])
     refine nN K (tn 4) ?_
     refine cnd h ?_ ?_<;>intro h
     ·refine nR K (tn 1) ?_
      cases h; exact VW.ret (rt [])
     refine VW.skip ?_
     exact arv [.ren [0, 7, 8] []] ⟨rfl, h⟩
    rintro s ⟨rfl, h⟩
    unfold F81_j1 at h
    refine nE K (tn 2) ?_
    exact aro [.ren [0, 7, 8] []] ⟨x20, (wr (x21 + (1 : Int))), rfl, h⟩
   refine VW.exit ?_
   exact arv [.ren [0] []] ⟨rfl, h⟩
 rintro s ⟨rfl, h⟩
 unfold F81_j0 at h
 refine sq <| VW.region <| nG K 2 (tn 2) ?_
 obtain⟨y14,hy,h⟩:=aS h
 refine clc false [.t (.int .i64), .t (.int .i64), .t (.int .i64)] [] (some 37) K (ok32 N _ _ _ hy) <| nN K (tn 1) ?_
 cases h; exact VW.ret (rt [])
def F82 (N : Nat) (a0 : Int) : Option (Bool) :=
  andO (F32 N a0 (0 : Int) (63 : Int)) fun y1 => some y1
theorem ok82 N a0 {r} (h : F82 N a0 = some r) : Con prog 82 [I a0] [.lf (.v .bool r)] := by
 refine ctr [.lf (.v .bool)] K func82 rfl fun w0 E0 ht => ?_
 unfold F82 at h
 show VW _ _ _ _ _ (retQ _ _ _ _) _
 refine nR K (tn 1) <| sq <| VW.region <| nG K 1 (tn 1) ?_
 obtain⟨y1,hy,h⟩:=aS h
 refine clc false [.t (.int .i64), .t (.int .i64), .t (.int .i64)] [] (some 4) K (ok32 N _ _ _ hy) <| nN K (tn 1) ?_
 cases h; exact VW.ret (rt [])
def F83 (N : Nat) (a0 : Int) : Option (Bool) :=
  andO (F32 N a0 (0 : Int) (39 : Int)) fun y1 => some y1
theorem ok83 N a0 {r} (h : F83 N a0 = some r) : Con prog 83 [I a0] [.lf (.v .bool r)] := by
 refine ctr [.lf (.v .bool)] K func83 rfl fun w0 E0 ht => ?_
 unfold F83 at h
 show VW _ _ _ _ _ (retQ _ _ _ _) _
 refine nR K (tn 1) <| sq <| VW.region <| nG K 1 (tn 1) ?_
 obtain⟨y1,hy,h⟩:=aS h
 refine clc false [.t (.int .i64), .t (.int .i64), .t (.int .i64)] [] (some 4) K (ok32 N _ _ _ hy) <| nN K (tn 1) ?_
 cases h; exact VW.ret (rt [])
def F90_j0 (N : Nat) : Option (Int) :=
  some (-1 : Int)
def F90_l0_b (N : Nat) (a0 : (List Int)) (p1 : Int → Option (Bool)) (nx29 : Int → Int → Option (Int)) (x23 : Int) (x24 : Int) : Option (Int) :=
  cond (decide (x24 < x23)) (gd (InR x24 a0.length) (andO (p1 (a0.getD x24.toNat (Ty.dflt (.int .i64)))) fun y33 => cond y33 (some x24) (nx29 x23 (IntKind.i64.wrap (x24 + (1 : Int)))))) (F90_j0 N)
def F90_l0 (N : Nat) (a0 : (List Int)) (p1 : Int → Option (Bool)) := loopF (F90_l0_b N a0 p1) (fun _ _ => none)
theorem F90_l0_s N a0 (p1 : Int → Option (Bool)) {k} (hk : 0 < k) x23 x24 : F90_l0 N a0 p1 k x23 x24 = F90_l0_b N a0 p1 (F90_l0 N a0 p1 (k - 1)) x23 x24 := by cases k;cases hk;rfl
def F90 (N : Nat) (a0 : (List Int)) (p1 : Int → Option (Bool)) : Option (Int) :=
  F90_l0 N a0 p1 N (a0.length : Int) (0 : Int)
theorem ok90 N a0 (g1 : FuncId) (p1 : Int → Option (Bool)) (hp1 : ∀ (z0 : Int) (r : Bool), p1 z0 = some r → Con prog g1 [I z0] [.lf (.v .bool r)]) {r} (h : F90 N a0 p1 = some r) : Con prog 90 [Vv (.sl (.int .i64)) a0, .clo g1 []] [.lf (.v (.int .i64) r)] := by
 refine ctr [.lf (.v (.int .i64))] K func90 rfl fun w0 E0 ht => ?_
 unfold F90 at h
 show VW _ _ _ _ _ (retQ _ _ _ _) _
 refine nR K (tn 1) ?_
 refine VW.join (fun s => s = ⟨[], []⟩ ∧ F90_j0 N = some r) ?_ ?_
 ·refine nR K (tn 3) <| VW.block <| lop (fun k s => ∃ x23 x24, s = ⟨[(0, Vv (.sl (.int .i64)) a0), (1, .clo g1 []), (7, I x23), (8, I x24)], []⟩ ∧ F90_l0 N a0 p1 k x23 x24 = some r) N [.ren [0, 1, 7, 8] []] ⟨(a0.length : Int), (0 : Int), rfl, h⟩ ?_
  rintro k29 s ⟨x23, x24, rfl, h⟩
  cases k29 with
  | zero => cases show none = some r from h
  | succ k29 =>
   replace h : F90_l0_b N a0 p1 (F90_l0 N a0 p1 k29) x23 x24 = some r := h
   unfold F90_l0_b at h
   refine nR K (tn 1) <| sq ?_
   refine cnd h ?_ ?_<;>intro h
   ·refine VW.skip <| sq <| VW.block <| nR K (tn 2) <| sq <| VW.region ?_
    obtain⟨g32,h⟩:=gS h
    refine nG K 5 (pu 3 (an g32 (tn 1))) ?_
    obtain⟨y33,hy,h⟩:=aS h
    refine clc false [.t (.int .i64)] [] (some 16) K (hp1 _ _ hy) <| nN K (tn 0) ?_
    refine cnd h ?_ ?_<;>intro h
    ·refine nR K (tn 2) ?_
     cases h; exact VW.ret (rt [])
    refine VW.skip <| nE K (tn 2) ?_
    exact aro [.ren [0, 1, 7, 8] []] ⟨x23, (wr (x24 + (1 : Int))), rfl, h⟩
   refine VW.exit ?_
   exact arv [.ren [] []] ⟨rfl, h⟩
 rintro s ⟨rfl, h⟩
 unfold F90_j0 at h
 refine nR K (tn 1) ?_
 cases h; exact VW.ret (rt [])
def F84 (N : Nat) (a0 : (List Int)) (p1 : Int → Option (Bool)) : Option (Bool) :=
  andO (F90 N a0 p1) fun y1 => some (decide (y1 ≥ (0 : Int)))
theorem ok84 N a0 (g1 : FuncId) (p1 : Int → Option (Bool)) (hp1 : ∀ (z0 : Int) (r : Bool), p1 z0 = some r → Con prog g1 [I z0] [.lf (.v .bool r)]) {r} (h : F84 N a0 p1 = some r) : Con prog 84 [Vv (.sl (.int .i64)) a0, .clo g1 []] [.lf (.v .bool r)] := by
 refine ctr [.lf (.v .bool)] K func84 rfl fun w0 E0 ht => ?_
 unfold F84 at h
 show VW _ _ _ _ _ (retQ _ _ _ _) _
 refine nR K (tn 1) <| sq <| VW.region <| nG K 2 (tn 2) ?_
 obtain⟨y1,hy,h⟩:=aS h
 refine clc false [.t (.sl (.int .i64)), .clo []] [] (some 7) K (ok90 N _ g1  p1 hp1 hy) <| nN K (tn 2) ?_
 cases h; exact VW.ret (rt [])
def F85 (N : Nat) (a0 : Int) : Option (Bool) :=
  andO (F82 N a0) fun y1 => some (!y1)
theorem ok85 N a0 {r} (h : F85 N a0 = some r) : Con prog 85 [I a0] [.lf (.v .bool r)] := by
 refine ctr [.lf (.v .bool)] K func85 rfl fun w0 E0 ht => ?_
 unfold F85 at h
 show VW _ _ _ _ _ (retQ _ _ _ _) _
 refine nR K (tn 1) <| sq <| VW.region <| nG K 1 (tn 1) ?_
 obtain⟨y1,hy,h⟩:=aS h
 refine clc false [.t (.int .i64)] [] (some 4) K (ok82 N _ hy) <| nN K (tn 2) ?_
 cases h; exact VW.ret (rt [])
def F54_j0 (N : Nat) (x38 : ByteArray) (x39 : Int) (x40 : Int) (x41 : Int) (x42 : Bool) (x43 : (List Int)) (x44 : Bool) : Option (Bool) :=
  cond x44 (andO (F35 N ((0 : Int), (x38, (x39, (x40, (x41, (x42, x43)))))) ((0 : Int), (ByteArray.empty, ((0 : Int), ((0 : Int), ((0 : Int), (false, []))))))) fun y45 => some y45) (some false)
def F54_j1 (N : Nat) (x52 : ByteArray) (x53 : Int) (x54 : Int) (x55 : Int) (x56 : Bool) (x57 : (List Int)) (x58 : Bool) : Option (Bool) :=
  F54_j0 N x52 (0 : Int) (0 : Int) (0 : Int) false x57 x58
def F54_j2 (N : Nat) (x62 : ByteArray) (x63 : Int) (x64 : Int) (x65 : Int) (x66 : Bool) (x67 : (List Int)) : Option (Bool) :=
  F54_j0 N x62 (0 : Int) (0 : Int) (0 : Int) false x67 false
def F54_j3 (N : Nat) (x76 : ByteArray) (x77 : Int) (x78 : Int) (x79 : Int) (x80 : Bool) (x81 : (List Int)) (x82 : Bool) : Option (Bool) :=
  cond x82 (F54_j0 N x76 x77 x78 x79 x80 x81 true) (F54_j0 N x76 x77 x78 x79 x80 x81 false)
def F54 (N : Nat) (a0 : Z44) : Option (Bool) :=
  cond (a0.1 == (0 : Int)) (andO (F81 N a0.2.1) fun y47 => F54_j0 N ByteArray.empty a0.2.2.1 a0.2.2.2.1 a0.2.2.2.2.1 a0.2.2.2.2.2.1 a0.2.2.2.2.2.2 y47) (cond (a0.1 == (1 : Int)) (andO (F82 N a0.2.2.1) fun y48 => cond y48 (andO (F32 N a0.2.2.2.1 (0 : Int) (3 : Int)) fun y49 => cond (a0.2.2.2.1 == (3 : Int)) (cond y49 (cond (a0.2.2.2.2.1 == (0 : Int)) (F54_j1 N a0.2.1 a0.2.2.1 a0.2.2.2.1 a0.2.2.2.2.1 a0.2.2.2.2.2.1 a0.2.2.2.2.2.2 (!a0.2.2.2.2.2.1)) (F54_j1 N a0.2.1 a0.2.2.1 a0.2.2.2.1 a0.2.2.2.2.1 a0.2.2.2.2.2.1 a0.2.2.2.2.2.2 false)) (F54_j1 N a0.2.1 a0.2.2.1 a0.2.2.2.1 a0.2.2.2.2.1 a0.2.2.2.2.2.1 a0.2.2.2.2.2.2 false)) (cond a0.2.2.2.2.2.1 (cond y49 (andO (F83 N a0.2.2.2.2.1) fun y60 => F54_j1 N a0.2.1 a0.2.2.1 a0.2.2.2.1 a0.2.2.2.2.1 a0.2.2.2.2.2.1 a0.2.2.2.2.2.2 y60) (F54_j1 N a0.2.1 a0.2.2.1 a0.2.2.2.1 a0.2.2.2.2.1 a0.2.2.2.2.2.1 a0.2.2.2.2.2.2 false)) (cond y49 (andO (F56 N a0.2.2.2.2.1) fun y61 => F54_j1 N a0.2.1 a0.2.2.1 a0.2.2.2.1 a0.2.2.2.2.1 a0.2.2.2.2.2.1 a0.2.2.2.2.2.2 y61) (F54_j1 N a0.2.1 a0.2.2.1 a0.2.2.2.1 a0.2.2.2.2.1 a0.2.2.2.2.2.1 a0.2.2.2.2.2.2 false)))) (cond (a0.2.2.2.1 == (3 : Int)) (F54_j2 N a0.2.1 a0.2.2.1 a0.2.2.2.1 a0.2.2.2.2.1 a0.2.2.2.2.2.1 a0.2.2.2.2.2.2) (cond a0.2.2.2.2.2.1 (F54_j2 N a0.2.1 a0.2.2.1 a0.2.2.2.1 a0.2.2.2.2.1 a0.2.2.2.2.2.1 a0.2.2.2.2.2.2) (F54_j2 N a0.2.1 a0.2.2.1 a0.2.2.2.1 a0.2.2.2.2.1 a0.2.2.2.2.2.1 a0.2.2.2.2.2.2)))) (cond (a0.1 == (2 : Int)) (andO (F32 N (a0.2.2.2.2.2.2.length : Int) (1 : Int) (6 : Int)) fun y69 => cond y69 (andO (F84 N a0.2.2.2.2.2.2 (fun z0 => F85 N z0)) fun y70 => F54_j0 N a0.2.1 a0.2.2.1 a0.2.2.2.1 a0.2.2.2.2.1 a0.2.2.2.2.2.1 ([]) (!y70)) (F54_j0 N a0.2.1 a0.2.2.1 a0.2.2.2.1 a0.2.2.2.2.1 a0.2.2.2.2.2.1 ([]) false)) (cond (a0.1 == (3 : Int)) (andO (F82 N a0.2.2.1) fun y71 => cond y71 (andO (F82 N a0.2.2.2.2.1) fun y72 => F54_j0 N a0.2.1 (0 : Int) a0.2.2.2.1 (0 : Int) a0.2.2.2.2.2.1 a0.2.2.2.2.2.2 y72) (F54_j0 N a0.2.1 (0 : Int) a0.2.2.2.1 (0 : Int) a0.2.2.2.2.2.1 a0.2.2.2.2.2.2 false)) (cond (a0.1 == (5 : Int)) (andO (F82 N a0.2.2.1) fun y73 => F54_j0 N a0.2.1 (0 : Int) a0.2.2.2.1 a0.2.2.2.2.1 a0.2.2.2.2.2.1 a0.2.2.2.2.2.2 y73) (cond (a0.1 == (6 : Int)) (andO (F32 N a0.2.2.2.2.1 (0 : Int) (1000000 : Int)) fun y74 => cond y74 (cond (!a0.2.2.2.2.2.1) (F54_j0 N a0.2.1 a0.2.2.1 a0.2.2.2.1 (0 : Int) false a0.2.2.2.2.2.2 true) (andO (F83 N a0.2.2.2.2.1) fun y75 => F54_j0 N a0.2.1 a0.2.2.1 a0.2.2.2.1 (0 : Int) false a0.2.2.2.2.2.2 y75)) (F54_j0 N a0.2.1 a0.2.2.1 a0.2.2.2.1 (0 : Int) false a0.2.2.2.2.2.2 false)) (cond (a0.1 == (4 : Int)) (F54_j3 N a0.2.1 a0.2.2.1 a0.2.2.2.1 a0.2.2.2.2.1 a0.2.2.2.2.2.1 a0.2.2.2.2.2.2 (a0.1 == (4 : Int))) (F54_j3 N a0.2.1 a0.2.2.1 a0.2.2.2.1 a0.2.2.2.2.1 a0.2.2.2.2.2.1 a0.2.2.2.2.2.2 (a0.1 == (7 : Int)))))))))
theorem ok54 N a0 {r} (h : F54 N a0 = some r) : Con prog 54 [.agg (lv Y44 a0)] [.lf (.v .bool r)] := by
 refine ctr [.lf (.v .bool)] K func54 rfl fun w0 E0 ht => ?_
 unfold F54 at h
 show VW _ _ _ _ _ (retQ _ _ _ _) _
 refine nR K (tn 2) <| nR K (tn 3) <| nR K (tn 2) <| nR K (tn 1) ?_
 refine VW.join (fun s => ∃ x38 x39 x40 x41 x42 x43 x44, s = ⟨[(3, .lf (.ptr 0 0 0 0)), (4, B x44)], [bx [zi (0 : Int), zs x38, zi x39, zi x40, zi x41, zb x42, .v (.sl (.int .i64)) x43] 45]⟩ ∧ F54_j0 N x38 x39 x40 x41 x42 x43 x44 = some r) ?_ ?_
 ·refine nR K (tn 2) <| VW.block <| nR K (tn 2) ?_
  refine cnd h ?_ ?_<;>intro h
  ·refine sq <| VW.region <| nG K 2 (tn 2) ?_
   obtain⟨y47,hy,h⟩:=aS h
   refine clc false [.t .str] [] (some 13) K (ok81 N _ hy) <| nN K (tn 1) <| nE K (tn 2) ?_
   exact arv [.ren [3, 4] [1]] ⟨ByteArray.empty, a0.2.2.1, a0.2.2.2.1, a0.2.2.2.2.1, a0.2.2.2.2.2.1, a0.2.2.2.2.2.2, y47, rfl, h⟩
  refine nR K (tn 2) ?_
  refine cnd h ?_ ?_<;>intro h
  ·refine sq <| VW.region <| nG K 2 (tn 2) ?_
   obtain⟨y48,hy,h⟩:=aS h
   refine clc false [.t (.int .i64)] [] (some 19) K (ok82 N _ hy) <| nG K 1 (tn 1) ?_
   refine spC 20 h ?_ ?_<;>intro h
   ·refine nG K 2 (tn 2) <| VO.on (j := 3) (want := true) (d := 20) (b := true) rfl rfl rfl (by kernel_rfl) rfl ?_
    obtain⟨y49,hy,h⟩:=aS h
    refine clc false [.t (.int .i64), .t (.int .i64), .t (.int .i64)] [] (some 23) K (ok32 N _ _ _ hy) <| nN K (tn 2) ?_
    refine VW.join (fun s => ∃ x52 x53 x54 x55 x56 x57 x58, s = ⟨[(3, .lf (.ptr 0 0 0 0)), (4, B x58)], [bx [zi (0 : Int), zs x52, zi x53, zi x54, zi x55, zb x56, .v (.sl (.int .i64)) x57] 45]⟩ ∧ F54_j1 N x52 x53 x54 x55 x56 x57 x58 = some r) ?_ ?_
    ·refine VW.block <| nR K (tn 4) ?_
     refine cnd h ?_ ?_<;>intro h
     ·refine VW.region <| sGh K 2 [1, 3, 36] [0, 1] [(1, .lf (.ptr 0 0 0 0)), (3, .lf (.ptr 1 0 0 0)), (36, B y49)] (tn 2) ?_
      refine spC 36 h ?_ ?_<;>intro h
      ·refine nG K 5 (tn 5) ?_
       refine spC 41 h ?_ ?_<;>intro h
       ·refine nN K (tn 5) ?_
        exact arv [.ren [3, 4] [1]] ⟨a0.2.1, a0.2.2.1, a0.2.2.2.1, a0.2.2.2.2.1, a0.2.2.2.2.2.1, a0.2.2.2.2.2.2, (!a0.2.2.2.2.2.1), rfl, h⟩
       refine nN K (tn 5) ?_
       exact arv [.ren [3, 4] [1]] ⟨a0.2.1, a0.2.2.1, a0.2.2.2.1, a0.2.2.2.2.1, a0.2.2.2.2.2.1, a0.2.2.2.2.2.2, false, rfl, h⟩
      refine nN K (tn 10) ?_
      exact arv [.ren [3, 4] [1]] ⟨a0.2.1, a0.2.2.1, a0.2.2.2.1, a0.2.2.2.2.1, a0.2.2.2.2.2.1, a0.2.2.2.2.2.2, false, rfl, h⟩
     refine sRh K [1, 3, 4, 46] [0, 1] [(1, .lf (.ptr 0 0 0 0)), (3, .lf (.ptr 1 0 0 0)), (4, B y49), (46, B a0.2.2.2.2.2.1)] (tn 3) ?_
     refine cnd h ?_ ?_<;>intro h
     ·refine VW.region <| nG K 2 (tn 2) ?_
      refine spC 50 h ?_ ?_<;>intro h
      ·refine nG K 2 (tn 2) <| VO.on (j := 1) (want := true) (d := 50) (b := true) rfl rfl rfl (by kernel_rfl) rfl ?_
       obtain⟨y60,hy,h⟩:=aS h
       refine clc false [.t (.int .i64)] [] (some 53) K (ok83 N _ hy) <| nN K (tn 2) ?_
       exact arv [.ren [3, 4] [1]] ⟨a0.2.1, a0.2.2.1, a0.2.2.2.1, a0.2.2.2.2.1, a0.2.2.2.2.2.1, a0.2.2.2.2.2.2, y60, rfl, h⟩
      refine nN K (tn 5) ?_
      exact arv [.ren [3, 4] [1]] ⟨a0.2.1, a0.2.2.1, a0.2.2.2.1, a0.2.2.2.2.1, a0.2.2.2.2.2.1, a0.2.2.2.2.2.2, false, rfl, h⟩
     refine VW.region <| nG K 2 (tn 2) ?_
     refine spC 26 h ?_ ?_<;>intro h
     ·refine nG K 2 (tn 2) <| VO.on (j := 1) (want := true) (d := 26) (b := true) rfl rfl rfl (by kernel_rfl) rfl ?_
      obtain⟨y61,hy,h⟩:=aS h
      refine clc false [.t (.int .i64)] [] (some 29) K (ok56 N _ hy) <| nN K (tn 2) ?_
      exact arv [.ren [3, 4] [1]] ⟨a0.2.1, a0.2.2.1, a0.2.2.2.1, a0.2.2.2.2.1, a0.2.2.2.2.2.1, a0.2.2.2.2.2.2, y61, rfl, h⟩
     refine nN K (tn 5) ?_
     exact arv [.ren [3, 4] [1]] ⟨a0.2.1, a0.2.2.1, a0.2.2.2.1, a0.2.2.2.2.1, a0.2.2.2.2.2.1, a0.2.2.2.2.2.2, false, rfl, h⟩
    rintro s ⟨x52, x53, x54, x55, x56, x57, x58, rfl, h⟩
    unfold F54_j1 at h
    refine nE K (tn 8) ?_
    exact arv [.ren [3, 4] [0]] ⟨x52, (0 : Int), (0 : Int), (0 : Int), false, x57, x58, rfl, h⟩
   refine nN K (tn 5) ?_
   refine VW.join (fun s => ∃ x62 x63 x64 x65 x66 x67, s = ⟨[(3, .lf (.ptr 0 0 0 0)), (4, B false)], [bx [zi (0 : Int), zs x62, zi x63, zi x64, zi x65, zb x66, .v (.sl (.int .i64)) x67] 45]⟩ ∧ F54_j2 N x62 x63 x64 x65 x66 x67 = some r) ?_ ?_
   ·refine VW.block <| nR K (tn 4) ?_
    refine cnd h ?_ ?_<;>intro h
    ·refine nE K (tn 12) ?_
     exact arv [.ren [3, 4] [1]] ⟨a0.2.1, a0.2.2.1, a0.2.2.2.1, a0.2.2.2.2.1, a0.2.2.2.2.2.1, a0.2.2.2.2.2.2, rfl, h⟩
    refine nR K (tn 3) ?_
    refine cnd h ?_ ?_<;>intro h
    ·refine rR K [3, 4] [1] ⟨[(3, .lf (.ptr 0 0 0 0)), (4, B false)], [bx [zi (0 : Int), zs a0.2.1, zi a0.2.2.1, zi a0.2.2.2.1, zi a0.2.2.2.2.1, zb a0.2.2.2.2.2.1, .v (.sl (.int .i64)) a0.2.2.2.2.2.2] 45]⟩ (tn 7) ?_
     exact arv [.ren [3, 4] [0]] ⟨a0.2.1, a0.2.2.1, a0.2.2.2.1, a0.2.2.2.2.1, a0.2.2.2.2.2.1, a0.2.2.2.2.2.2, rfl, h⟩
    refine rR K [3, 4] [1] ⟨[(3, .lf (.ptr 0 0 0 0)), (4, B false)], [bx [zi (0 : Int), zs a0.2.1, zi a0.2.2.1, zi a0.2.2.2.1, zi a0.2.2.2.2.1, zb a0.2.2.2.2.2.1, .v (.sl (.int .i64)) a0.2.2.2.2.2.2] 45]⟩ (tn 7) ?_
    exact arv [.ren [3, 4] [0]] ⟨a0.2.1, a0.2.2.1, a0.2.2.2.1, a0.2.2.2.2.1, a0.2.2.2.2.2.1, a0.2.2.2.2.2.2, rfl, h⟩
   rintro s ⟨x62, x63, x64, x65, x66, x67, rfl, h⟩
   unfold F54_j2 at h
   refine nE K (tn 8) ?_
   exact arv [.ren [3, 4] [0]] ⟨x62, (0 : Int), (0 : Int), (0 : Int), false, x67, false, rfl, h⟩
  refine nR K (tn 2) ?_
  refine cnd h ?_ ?_<;>intro h
  ·refine sq <| VW.region <| nG K 3 (tn 3) ?_
   obtain⟨y69,hy,h⟩:=aS h
   refine clc false [.t (.int .i64), .t (.int .i64), .t (.int .i64)] [] (some 64) K (ok32 N _ _ _ hy) <| nG K 1 (tn 1) ?_
   refine spC 65 h ?_ ?_<;>intro h
   ·refine nG K 2 (tn 2) <| VO.on (j := 4) (want := true) (d := 65) (b := true) rfl rfl rfl (by kernel_rfl) rfl ?_
    obtain⟨y70,hy,h⟩:=aS h
    refine clc false [.t (.sl (.int .i64)), .clo []] [] (some 68) K (ok84 N _ 85  (fun z0 => F85 N z0 ) (fun z0 _ hz => ok85 N z0 hz) hy) <| nN K (tn 3) <| rR K [3, 4] [1] ⟨[(3, .lf (.ptr 0 0 0 0)), (4, B (!y70))], [bx [zi (0 : Int), zs a0.2.1, zi a0.2.2.1, zi a0.2.2.2.1, zi a0.2.2.2.2.1, zb a0.2.2.2.2.2.1, .nil] 45]⟩ (tn 2) ?_
    exact arv [.nilB 0 6 (.int .i64), .ren [3, 4] [0]] ⟨a0.2.1, a0.2.2.1, a0.2.2.2.1, a0.2.2.2.2.1, a0.2.2.2.2.2.1, [], (!y70), rfl, h⟩
   refine nN K (tn 6) <| nE K (tn 2) ?_
   exact arv [.nilB 1 6 (.int .i64), .ren [3, 4] [1]] ⟨a0.2.1, a0.2.2.1, a0.2.2.2.1, a0.2.2.2.2.1, a0.2.2.2.2.2.1, [], false, rfl, h⟩
  refine nR K (tn 2) ?_
  refine cnd h ?_ ?_<;>intro h
  ·refine sq <| VW.region <| nG K 2 (tn 2) ?_
   obtain⟨y71,hy,h⟩:=aS h
   refine clc false [.t (.int .i64)] [] (some 76) K (ok82 N _ hy) <| nG K 1 (tn 1) ?_
   refine spC 77 h ?_ ?_<;>intro h
   ·refine nG K 2 (tn 2) <| VO.on (j := 3) (want := true) (d := 77) (b := true) rfl rfl rfl (by kernel_rfl) rfl ?_
    obtain⟨y72,hy,h⟩:=aS h
    refine clc false [.t (.int .i64)] [] (some 80) K (ok82 N _ hy) <| sN K [3, 4] [1] ⟨[(3, .lf (.ptr 0 0 0 0)), (4, B y72)], [bx [zi (0 : Int), zs a0.2.1, zi a0.2.2.1, zi a0.2.2.2.1, zi a0.2.2.2.2.1, zb a0.2.2.2.2.2.1, .v (.sl (.int .i64)) a0.2.2.2.2.2.2] 45]⟩ (tn 2) <| nE K (tn 4) ?_
    exact arv [.ren [3, 4] [0]] ⟨a0.2.1, (0 : Int), a0.2.2.2.1, (0 : Int), a0.2.2.2.2.2.1, a0.2.2.2.2.2.2, y72, rfl, h⟩
   refine nN K (tn 5) <| rR K [3, 4] [1] ⟨[(3, .lf (.ptr 0 0 0 0)), (4, B false)], [bx [zi (0 : Int), zs a0.2.1, zi (0 : Int), zi a0.2.2.2.1, zi (0 : Int), zb a0.2.2.2.2.2.1, .v (.sl (.int .i64)) a0.2.2.2.2.2.2] 45]⟩ (tn 4) ?_
   exact arv [.ren [3, 4] [0]] ⟨a0.2.1, (0 : Int), a0.2.2.2.1, (0 : Int), a0.2.2.2.2.2.1, a0.2.2.2.2.2.2, false, rfl, h⟩
  refine nR K (tn 2) ?_
  refine cnd h ?_ ?_<;>intro h
  ·refine sq <| VW.region <| nG K 2 (tn 2) ?_
   obtain⟨y73,hy,h⟩:=aS h
   refine clc false [.t (.int .i64)] [] (some 88) K (ok82 N _ hy) <| nN K (tn 1) <| rR K [3, 4] [1] ⟨[(3, .lf (.ptr 0 0 0 0)), (4, B y73)], [bx [zi (0 : Int), zs a0.2.1, zi (0 : Int), zi a0.2.2.2.1, zi a0.2.2.2.2.1, zb a0.2.2.2.2.2.1, .v (.sl (.int .i64)) a0.2.2.2.2.2.2] 45]⟩ (tn 2) ?_
   exact arv [.ren [3, 4] [0]] ⟨a0.2.1, (0 : Int), a0.2.2.2.1, a0.2.2.2.2.1, a0.2.2.2.2.2.1, a0.2.2.2.2.2.2, y73, rfl, h⟩
  refine nR K (tn 2) ?_
  refine cnd h ?_ ?_<;>intro h
  ·refine sq <| VW.region <| nG K 2 (tn 2) ?_
   obtain⟨y74,hy,h⟩:=aS h
   refine clc false [.t (.int .i64), .t (.int .i64), .t (.int .i64)] [] (some 94) K (ok32 N _ _ _ hy) <| sGh K 1 [1, 3, 95] [0, 1] [(1, .lf (.ptr 0 0 0 0)), (3, .lf (.ptr 1 0 0 0)), (95, B y74)] (tn 1) ?_
   refine spC 95 h ?_ ?_<;>intro h
   ·refine nG K 4 (tn 4) ?_
    refine spC 99 h ?_ ?_<;>intro h
    ·refine nN K (tn 6) <| nE K (tn 4) ?_
     exact arv [.ren [3, 4] [1]] ⟨a0.2.1, a0.2.2.1, a0.2.2.2.1, (0 : Int), false, a0.2.2.2.2.2.2, true, rfl, h⟩
    refine nG K 2 (tn 2) <| VO.on (j := 7) (want := false) (d := 99) (b := false) rfl rfl rfl (by kernel_rfl) rfl ?_
    obtain⟨y75,hy,h⟩:=aS h
    refine clc false [.t (.int .i64)] [] (some 102) K (ok83 N _ hy) <| nN K (tn 3) <| nE K (tn 4) ?_
    exact arv [.ren [3, 4] [1]] ⟨a0.2.1, a0.2.2.1, a0.2.2.2.1, (0 : Int), false, a0.2.2.2.2.2.2, y75, rfl, h⟩
   refine nN K (tn 10) <| nE K (tn 4) ?_
   exact arv [.ren [3, 4] [1]] ⟨a0.2.1, a0.2.2.1, a0.2.2.2.1, (0 : Int), false, a0.2.2.2.2.2.2, false, rfl, h⟩
  refine VW.join (fun s => ∃ x76 x77 x78 x79 x80 x81 x82, s = ⟨[(3, .lf (.ptr 0 0 0 0)), (4, B false), (107, B x82)], [bx [zi (0 : Int), zs x76, zi x77, zi x78, zi x79, zb x80, .v (.sl (.int .i64)) x81] 45]⟩ ∧ F54_j3 N x76 x77 x78 x79 x80 x81 x82 = some r) ?_ ?_
  ·refine nR K (tn 2) ?_
   refine cnd h ?_ ?_<;>intro h
   ·refine VW.skip ?_
    exact arv [.ren [3, 4, 107] [1]] ⟨a0.2.1, a0.2.2.1, a0.2.2.2.1, a0.2.2.2.2.1, a0.2.2.2.2.2.1, a0.2.2.2.2.2.2, (a0.1 == (4 : Int)), rfl, h⟩
   refine rR K [3, 4, 107] [1] ⟨[(3, .lf (.ptr 0 0 0 0)), (4, B false), (107, B (a0.1 == (7 : Int)))], [bx [zi (0 : Int), zs a0.2.1, zi a0.2.2.1, zi a0.2.2.2.1, zi a0.2.2.2.2.1, zb a0.2.2.2.2.2.1, .v (.sl (.int .i64)) a0.2.2.2.2.2.2] 45]⟩ (tn 2) ?_
   exact arv [.ren [3, 4, 107] [0]] ⟨a0.2.1, a0.2.2.1, a0.2.2.2.1, a0.2.2.2.2.1, a0.2.2.2.2.2.1, a0.2.2.2.2.2.2, (a0.1 == (7 : Int)), rfl, h⟩
  rintro s ⟨x76, x77, x78, x79, x80, x81, x82, rfl, h⟩
  unfold F54_j3 at h
  refine cnd h ?_ ?_<;>intro h
  ·refine nE K (tn 1) ?_
   exact arv [.ren [3, 4] [0]] ⟨x76, x77, x78, x79, x80, x81, true, rfl, h⟩
  refine VW.skip ?_
  exact arv [.ren [3, 4] [0]] ⟨x76, x77, x78, x79, x80, x81, false, rfl, h⟩
 rintro s ⟨x38, x39, x40, x41, x42, x43, x44, rfl, h⟩
 unfold F54_j0 at h
 refine sq <| VW.region <| nG K 2 (tn 2) ?_
 refine spC 111 h ?_ ?_<;>intro h
 ·refine nG K 2 (tn 2) <| VO.on (j := 1) (want := true) (d := 111) (b := true) rfl rfl rfl (by kernel_rfl) rfl ?_
  obtain⟨y45,hy,h⟩:=aS h
  refine clc false [.t Y44, .t Y44] [] (some 114) K (ok35 N _ _ hy) <| nN K (tn 2) ?_
  cases h; exact VW.ret (rt [])
 refine nN K (tn 5) ?_
 cases h; exact VW.ret (rt [])
def F53 (N : Nat) (a0 : Z44) : Option (Bool) :=
  andO (F54 N a0) fun y1 => some (!y1)
theorem ok53 N a0 {r} (h : F53 N a0 = some r) : Con prog 53 [.agg (lv Y44 a0)] [.lf (.v .bool r)] := by
 refine ctr [.lf (.v .bool)] K func53 rfl fun w0 E0 ht => ?_
 unfold F53 at h
 show VW _ _ _ _ _ (retQ _ _ _ _) _
 refine nR K (tn 2) <| sq <| VW.region <| nG K 1 (tn 1) ?_
 obtain⟨y1,hy,h⟩:=aS h
 refine clc false [.t Y44] [] (some 4) K (ok54 N _ hy) <| nN K (tn 2) ?_
 cases h; exact VW.ret (rt [])
def F86_j0 (N : Nat) (x6 : Bool) : Option (Int) :=
  cond x6 (some (1 : Int)) (some (-1 : Int))
def F86_j1 (N : Nat) (a0 : Int) (x5 : Bool) : Option (Int) :=
  cond x5 (some (2 : Int)) (cond (a0 == (1 : Int)) (F86_j0 N (a0 == (1 : Int))) (cond (a0 == (2 : Int)) (F86_j0 N (a0 == (2 : Int))) (cond (a0 == (5 : Int)) (F86_j0 N (a0 == (5 : Int))) (cond (a0 == (6 : Int)) (F86_j0 N (a0 == (6 : Int))) (F86_j0 N (a0 == (7 : Int)))))))
def F86 (N : Nat) (a0 : Int) : Option (Int) :=
  cond (a0 == (0 : Int)) (some (0 : Int)) (cond (a0 == (3 : Int)) (F86_j1 N a0 (a0 == (3 : Int))) (F86_j1 N a0 (a0 == (4 : Int))))
theorem ok86 N a0 {r} (h : F86 N a0 = some r) : Con prog 86 [I a0] [.lf (.v (.int .i64) r)] := by
 refine ctr [.lf (.v (.int .i64))] K func86 rfl fun w0 E0 ht => ?_
 unfold F86 at h
 show VW _ _ _ _ _ (retQ _ _ _ _) _
 refine nR K (tn 1) <| sq <| nR K (tn 1) <| VW.block <| nR K (tn 2) ?_
 refine cnd h ?_ ?_<;>intro h
 ·refine nR K (tn 1) ?_
  cases h; exact VW.ret (rt [])
 refine VW.join (fun s => ∃ x5, s = ⟨[(3, I a0), (6, B x5)], []⟩ ∧ F86_j1 N a0 x5 = some r) ?_ ?_
 ·refine nR K (tn 2) ?_
  refine cnd h ?_ ?_<;>intro h
  ·refine VW.skip ?_
   exact arv [.ren [3, 6] []] ⟨(a0 == (3 : Int)), rfl, h⟩
  refine nE K (tn 2) ?_
  exact arv [.ren [3, 6] []] ⟨(a0 == (4 : Int)), rfl, h⟩
 rintro s ⟨x5, rfl, h⟩
 unfold F86_j1 at h
 refine cnd h ?_ ?_<;>intro h
 ·refine nR K (tn 1) ?_
  cases h; exact VW.ret (rt [])
 refine VW.join (fun s => ∃ x6, s = ⟨[(9, B x6)], []⟩ ∧ F86_j0 N x6 = some r) ?_ ?_
 ·refine nR K (tn 2) ?_
  refine cnd h ?_ ?_<;>intro h
  ·refine VW.skip ?_
   exact arv [.ren [9] []] ⟨(a0 == (1 : Int)), rfl, h⟩
  refine nR K (tn 2) ?_
  refine cnd h ?_ ?_<;>intro h
  ·refine VW.skip ?_
   exact arv [.ren [9] []] ⟨(a0 == (2 : Int)), rfl, h⟩
  refine nR K (tn 2) ?_
  refine cnd h ?_ ?_<;>intro h
  ·refine VW.skip ?_
   exact arv [.ren [9] []] ⟨(a0 == (5 : Int)), rfl, h⟩
  refine nR K (tn 2) ?_
  refine cnd h ?_ ?_<;>intro h
  ·refine VW.skip ?_
   exact arv [.ren [9] []] ⟨(a0 == (6 : Int)), rfl, h⟩
  refine nE K (tn 2) ?_
  exact arv [.ren [9] []] ⟨(a0 == (7 : Int)), rfl, h⟩
 rintro s ⟨x6, rfl, h⟩
 unfold F86_j0 at h
 refine cnd h ?_ ?_<;>intro h
 ·refine nR K (tn 1) ?_
  cases h; exact VW.ret (rt [])
 refine VW.skip <| nR K (tn 1) ?_
 cases h; exact VW.ret (rt [])
def F55_j0 (N : Nat) (x13 : Int) : Option (Int) :=
  some x13
def F55_l0_b (N : Nat) (a0 : (List Z44)) (a2 : Int) (self : (List Z44) → Int → Int → Option (Int)) (y16 : Int) (nx24 : Int → Int → Option (Int)) (x20 : Int) (x21 : Int) : Option (Int) :=
  cond (decide (x21 < y16)) (andO (self a0 x20 (IntKind.i64.wrap (a2 + (1 : Int)))) fun y26 => cond (decide (y26 < (0 : Int))) (some (-1 : Int)) (nx24 y26 (IntKind.i64.wrap (x21 + (1 : Int))))) (F55_j0 N x20)
def F55_l0 (N : Nat) (a0 : (List Z44)) (a2 : Int) (self : (List Z44) → Int → Int → Option (Int)) (y16 : Int) := loopF (F55_l0_b N a0 a2 self y16) (fun _ _ => none)
theorem F55_l0_s N a0 a2 (self : (List Z44) → Int → Int → Option (Int)) y16 {k} (hk : 0 < k) x20 x21 : F55_l0 N a0 a2 self y16 k x20 x21 = F55_l0_b N a0 a2 self y16 (F55_l0 N a0 a2 self y16 (k - 1)) x20 x21 := by cases k;cases hk;rfl
def F55_b (N : Nat) (self : (List Z44) → Int → Int → Option (Int)) (a0 : (List Z44)) (a1 : Int) (a2 : Int) : Option (Int) :=
  cond (decide (a1 ≥ (a0.length : Int))) (some (-1 : Int)) (cond (decide (a2 > (10 : Int))) (some (-1 : Int)) (gd (InR a1 a0.length) (andO (F86 N ((a0.getD a1.toNat (Ty.dflt Y44)).1)) fun y16 => F55_l0 N a0 a2 self y16 N (IntKind.i64.wrap (a1 + (1 : Int))) (0 : Int))))
theorem ok55_b (N : Nat) (self : (List Z44) → Int → Int → Option (Int)) (ih : ∀ (a0 : (List Z44)) (a1 : Int) (a2 : Int) (r : Int), self a0 a1 a2 = some r → Con prog 55 [Vv (.sl Y44) a0, I a1, I a2] [.lf (.v (.int .i64) r)]) (a0 : (List Z44)) (a1 : Int) (a2 : Int) {r : Int} (h : F55_b N self a0 a1 a2 = some r) : Con prog 55 [Vv (.sl Y44) a0, I a1, I a2] [.lf (.v (.int .i64) r)] := by
 refine ctr [.lf (.v (.int .i64))] K func55 rfl fun w0 E0 ht => ?_
 unfold F55_b at h
 show VW _ _ _ _ _ (retQ _ _ _ _) _
 refine nR K (tn 1) <| sq <| sq <| VW.region <| nG K 5 (tn 5) ?_
 refine spC 12 h ?_ ?_<;>intro h
 ·refine nN K (tn 3) ?_
  refine VW.cond (b := true) (by kernel_rfl) (fun _ => ?_) (fun h' => nomatch h')
  refine nR K (tn 1) ?_
  cases h; exact VW.ret (rt [])
 refine nN K (tn 3) ?_
 refine cnd h ?_ ?_<;>intro h
 ·refine nR K (tn 1) ?_
  cases h; exact VW.ret (rt [])
 refine VW.skip <| nR K (tn 3) ?_
 refine VW.join (fun s => ∃ x13, s = ⟨[(7, I x13)], []⟩ ∧ F55_j0 N x13 = some r) ?_ ?_
 ·refine sq <| VW.region ?_
  obtain⟨g15,h⟩:=gS h
  refine nG K 5 (pu 2 (an g15 (tn 2))) ?_
  obtain⟨y16,hy,h⟩:=aS h
  refine clc false [.t (.int .i64)] [] (some 23) K (ok86 N _ hy) <| nN K (tn 1) <| VW.block <| lop (fun k s => ∃ x20 x21, s = ⟨[(0, Vv (.sl Y44) a0), (2, I a2), (7, I x20), (23, I y16), (24, I x21)], []⟩ ∧ F55_l0 N a0 a2 self y16 k x20 x21 = some r) N [.ren [0, 2, 7, 23, 24] []] ⟨(wr (a1 + (1 : Int))), (0 : Int), rfl, h⟩ ?_
  rintro k24 s ⟨x20, x21, rfl, h⟩
  cases k24 with
  | zero => cases show none = some r from h
  | succ k24 =>
   replace h : F55_l0_b N a0 a2 self y16 (F55_l0 N a0 a2 self y16 k24) x20 x21 = some r := h
   unfold F55_l0_b at h
   refine nR K (tn 1) <| sq ?_
   refine cnd h ?_ ?_<;>intro h
   ·refine VW.skip <| sq <| VW.block <| sq <| VW.region <| nG K 4 (tn 4) ?_
    obtain⟨y26,hy,h⟩:=aS h
    refine clc false [.t (.sl Y44), .t (.int .i64), .t (.int .i64)] [] (some 30) K (ih _ _ _ _ hy) <| nN K (tn 1) <| nR K (tn 2) ?_
    refine cnd h ?_ ?_<;>intro h
    ·refine nR K (tn 1) ?_
     cases h; exact VW.ret (rt [])
    refine VW.skip <| nE K (tn 2) ?_
    exact aro [.ren [0, 2, 7, 23, 24] []] ⟨y26, (wr (x21 + (1 : Int))), rfl, h⟩
   refine VW.exit ?_
   exact arv [.ren [7] []] ⟨x20, rfl, h⟩
 rintro s ⟨x13, rfl, h⟩
 unfold F55_j0 at h
 refine nR K (tn 2) ?_
 cases h; exact VW.ret (rt [])
def F55_r (N : Nat) := loopF (F55_b N) (fun _ _ _ => none)
theorem F55_s N {k} (hk : 0 < k) a0 a1 a2 : F55_r N k a0 a1 a2 = F55_b N (F55_r N (k - 1)) a0 a1 a2 := by cases k;cases hk;rfl
def F55 (N : Nat) : (List Z44) → Int → Int → Option (Int) := F55_r N N
theorem ok55_k (N : Nat) : ∀ (k : Nat) (a0 : (List Z44)) (a1 : Int) (a2 : Int) (r : Int), loopF (F55_b N) (fun _ _ _ => none) k a0 a1 a2 = some r → Con prog 55 [Vv (.sl Y44) a0, I a1, I a2] [.lf (.v (.int .i64) r)]
 | 0, a0, a1, a2, r, h => nomatch (show (none : Option (Int)) = some r from h)
 | k + 1, a0, a1, a2, r, h => ok55_b N _ (ok55_k N k) a0 a1 a2 h
theorem ok55 N a0 a1 a2 {r} (h : F55 N a0 a1 a2 = some r) : Con prog 55 [Vv (.sl Y44) a0, I a1, I a2] [.lf (.v (.int .i64) r)] := ok55_k N N a0 a1 a2 r h
def F24 (N : Nat) (a0 : (List Z44)) : Option (Bool) :=
  andO (F32 N (a0.length : Int) (1 : Int) (40 : Int)) fun y3 => cond (!y3) (some false) (andO (F52 N a0 (fun z0 => F53 N z0)) fun y4 => cond y4 (some false) (andO (F55 N a0 (0 : Int) (1 : Int)) fun y5 => some (y5 == (a0.length : Int))))
theorem ok24 N a0 {r} (h : F24 N a0 = some r) : Con prog 24 [Vv (.sl Y44) a0] [.lf (.v .bool r)] := by
 refine ctr [.lf (.v .bool)] K func24 rfl fun w0 E0 ht => ?_
 unfold F24 at h
 show VW _ _ _ _ _ (retQ _ _ _ _) _
 refine nR K (tn 1) <| sq <| sq <| VW.region <| nG K 2 (tn 2) ?_
 obtain⟨y3,hy,h⟩:=aS h
 refine clc false [.t (.int .i64), .t (.int .i64), .t (.int .i64)] [] (some 5) K (ok32 N _ _ _ hy) <| nG K 2 (tn 2) ?_
 refine spC 7 h ?_ ?_<;>intro h
 ·refine nN K (tn 3) ?_
  refine VW.cond (b := true) (by kernel_rfl) (fun _ => ?_) (fun h' => nomatch h')
  refine nR K (tn 1) ?_
  cases h; exact VW.ret (rt [])
 refine nG K 1 (tn 1) <| VO.on (j := 4) (want := false) (d := 7) (b := false) rfl rfl rfl (by kernel_rfl) rfl ?_
 obtain⟨y4,hy,h⟩:=aS h
 refine clc false [.t (.sl Y44), .clo []] [] (some 9) K (ok52 N _ 53  (fun z0 => F53 N z0 ) (fun z0 _ hz => ok53 N z0 hz) hy) <| nN K (tn 1) ?_
 refine cnd h ?_ ?_<;>intro h
 ·refine nR K (tn 1) ?_
  cases h; exact VW.ret (rt [])
 refine VW.skip <| sq <| VW.region <| nG K 1 (tn 1) ?_
 obtain⟨y5,hy,h⟩:=aS h
 refine clc false [.t (.sl Y44), .t (.int .i64), .t (.int .i64)] [] (some 12) K (ok55 N _ _ _ hy) <| nN K (tn 4) ?_
 cases h; exact VW.ret (rt [])
def F25_j0 (N : Nat) (x10 : Int) (x11 : (List Int)) : Option ((List Int)) :=
  gd (x11.length + ([(IntKind.u8.wrap x10)]).length ≤ lim (.int .u8)) (some (x11 ++ ([(IntKind.u8.wrap x10)])))
def F25_l0_b (N : Nat) (nx18 : Int → (List Int) → Option ((List Int))) (x15 : Int) (x16 : (List Int)) : Option ((List Int)) :=
  cond (decide (x15 ≥ (128 : Int))) (gd (x16.length + ([(IntKind.u8.wrap (IntKind.i64.wrap ((Int.tmod x15 (128 : Int)) + (128 : Int))))]).length ≤ lim (.int .u8)) (nx18 (IntKind.i64.wrap (Int.tdiv x15 (128 : Int))) (x16 ++ ([(IntKind.u8.wrap (IntKind.i64.wrap ((Int.tmod x15 (128 : Int)) + (128 : Int))))])))) (F25_j0 N x15 x16)
def F25_l0 (N : Nat) := loopF (F25_l0_b N) (fun _ _ => none)
theorem F25_l0_s N {k} (hk : 0 < k) x15 x16 : F25_l0 N k x15 x16 = F25_l0_b N (F25_l0 N (k - 1)) x15 x16 := by cases k;cases hk;rfl
def F25_j1 (N : Nat) (x3 : Int) : Option ((List Int)) :=
  F25_l0 N N x3 ([])
def F25 (N : Nat) (a0 : Int) : Option ((List Int)) :=
  andO (F56 N a0) fun y2 => cond (!y2) (some ([])) (cond (decide (a0 < (0 : Int))) (F25_j1 N (IntKind.i64.wrap ((IntKind.i64.wrap ((-2 : Int) * a0)) - (1 : Int)))) (F25_j1 N (IntKind.i64.wrap ((2 : Int) * a0))))
theorem ok25 N a0 {r} (h : F25 N a0 = some r) : Con prog 25 [I a0] [.lf (.own (.int .u8) r .dp)] := by
 refine ctr [.lf (.own (.int .u8) .dp)] K func25 rfl fun w0 E0 ht => ?_
 unfold F25 at h
 show VW _ _ _ _ _ (retQ _ _ _ _) _
 refine nR K (tn 1) <| sq <| sq <| VW.region <| nG K 1 (tn 1) ?_
 obtain⟨y2,hy,h⟩:=aS h
 refine clc false [.t (.int .i64)] [] (some 6) K (ok56 N _ hy) <| nN K (tn 1) ?_
 refine cnd h ?_ ?_<;>intro h
 ·refine nR K (tn 1) ?_
  cases h; exact VW.ret (rt [none])
 refine VW.skip <| nR K (tn 3) ?_
 refine VW.join (fun s => ∃ x3, s = ⟨[(3, I x3)], []⟩ ∧ F25_j1 N x3 = some r) ?_ ?_
 ·refine nR K (tn 2) ?_
  refine cnd h ?_ ?_<;>intro h
  ·refine nE K (tn 4) ?_
   exact arv [.ren [3] []] ⟨(wr ((wr ((-2 : Int) * a0)) - (1 : Int))), rfl, h⟩
  refine VW.skip ?_
  exact arv [.ren [3] []] ⟨(wr ((2 : Int) * a0)), rfl, h⟩
 rintro s ⟨x3, rfl, h⟩
 unfold F25_j1 at h
 refine nR K (tn 1) ?_
 refine VW.join (fun s => ∃ x10 x11, s = ⟨[(3, I x10), (4, hh 0)], [ar 0 (.int .u8) x11 .dp]⟩ ∧ F25_j0 N x10 x11 = some r) ?_ ?_
 ·refine VW.block <| lop (fun k s => ∃ x15 x16, s = ⟨[(3, I x15), (4, hh 0)], [ar 0 (.int .u8) x16 .dp]⟩ ∧ F25_l0 N k x15 x16 = some r) N [.nilS 4 (.int .u8) .dp, .ren [3, 4] [0]] ⟨x3, [], rfl, h⟩ ?_
  rintro k18 s ⟨x15, x16, rfl, h⟩
  cases k18 with
  | zero => cases show none = some r from h
  | succ k18 =>
   replace h : F25_l0_b N (F25_l0 N k18) x15 x16 = some r := h
   unfold F25_l0_b at h
   refine sq <| nR K (tn 2) ?_
   refine cnd h ?_ ?_<;>intro h
   ·refine VW.skip <| VW.block ?_
    obtain⟨g19,h⟩:=gS h
    refine nR K (pu 2 (an (show ((128 : Int) ≠ 0) from by decide) (pu 3 (an g19 (tn 1))))) <| nE K (pu 1 (an (show ((128 : Int) ≠ 0) from by decide) (tn 1))) ?_
    exact aro [.ren [3, 4] [0]] ⟨(wr (Int.tdiv x15 (128 : Int))), (x16 ++ ([(IntKind.u8.wrap (wr ((Int.tmod x15 (128 : Int)) + (128 : Int))))])), rfl, h⟩
   refine VW.exit ?_
   exact arv [.ren [3, 4] [0]] ⟨x15, x16, rfl, h⟩
 rintro s ⟨x10, x11, rfl, h⟩
 unfold F25_j0 at h
 obtain⟨g12,h⟩:=gS h
 refine nR K (pu 4 (an g12 (tn 1))) ?_
 cases h; exact VW.ret (rt [some 0])
def F57 (N : Nat) (a0 : ByteArray) : Option ((List Int)) :=
  andO (F81 N a0) fun y2 => cond (!y2) (some ([])) (andO (F25 N (a0.size : Int)) fun y3 => gd (y3.length + a0.size ≤ lim (.int .u8)) (some (y3 ++ (bytesOf a0))))
theorem ok57 N a0 {r} (h : F57 N a0 = some r) : Con prog 57 [S a0] [.lf (.own (.int .u8) r .dp)] := by
 refine ctr [.lf (.own (.int .u8) .dp)] K func57 rfl fun w0 E0 ht => ?_
 unfold F57 at h
 show VW _ _ _ _ _ (retQ _ _ _ _) _
 refine nR K (tn 1) <| sq <| sq <| VW.region <| nG K 1 (tn 1) ?_
 obtain⟨y2,hy,h⟩:=aS h
 refine clc false [.t .str] [] (some 4) K (ok81 N _ hy) <| nN K (tn 1) ?_
 refine cnd h ?_ ?_<;>intro h
 ·refine nR K (tn 1) ?_
  cases h; exact VW.ret (rt [none])
 refine VW.skip <| sq <| VW.region <| nG K 2 (tn 2) ?_
 obtain⟨y3,hy,h⟩:=aS h
 refine clc false [.t (.int .i64)] [] (some 8) K (ok25 N _ hy) <| nG K 1 (tn 1) ?_
 obtain⟨g4,h⟩:=gS h
 refine VO.appS (d := 10) (φ := y3.length + a0.size ≤ lim (.int .u8)) (v := .lf (.hd 0 1 none)) (H' := [ar 1 (.int .u8) (y3 ++ (bytesOf a0)) .dp]) K (by kernel_rfl) g4 <| nN K (tn 1) ?_
 cases h; exact VW.ret (rt [some 0])
def F58_j0 (N : Nat) (x24 : (List Int)) : Option ((List Int)) :=
  some x24
def F58_l0_b (N : Nat) (a0 : (List Int)) (nx42 : (List Int) → Int → Int → Option ((List Int))) (x33 : (List Int)) (x34 : Int) (x35 : Int) : Option ((List Int)) :=
  cond (decide (x35 < x34)) (gd (InR x35 a0.length) (andO (F25 N (a0.getD x35.toNat (Ty.dflt (.int .i64)))) fun y47 => gd (x33.length + y47.length ≤ lim (.int .u8)) (nx42 (x33 ++ y47) x34 (IntKind.i64.wrap (x35 + (1 : Int)))))) (F58_j0 N x33)
def F58_l0 (N : Nat) (a0 : (List Int)) := loopF (F58_l0_b N a0) (fun _ _ _ => none)
theorem F58_l0_s N a0 {k} (hk : 0 < k) x33 x34 x35 : F58_l0 N a0 k x33 x34 x35 = F58_l0_b N a0 (F58_l0 N a0 (k - 1)) x33 x34 x35 := by cases k;cases hk;rfl
def F58 (N : Nat) (a0 : (List Int)) : Option ((List Int)) :=
  F58_l0 N a0 N ([]) (a0.length : Int) (0 : Int)
theorem ok58 N a0 {r} (h : F58 N a0 = some r) : Con prog 58 [Vv (.sl (.int .i64)) a0] [.lf (.own (.int .u8) r .dp)] := by
 refine ctr [.lf (.own (.int .u8) .dp)] K func58 rfl fun w0 E0 ht => ?_
 unfold F58 at h
 show VW _ _ _ _ _ (retQ _ _ _ _) _
 refine nR K (tn 1) <| nR K (tn 1) ?_
 refine VW.join (fun s => ∃ x24, s = ⟨[(3, hh 0)], [ar 0 (.int .u8) x24 .dp]⟩ ∧ F58_j0 N x24 = some r) ?_ ?_
 ·refine nR K (tn 3) <| VW.block <| lop (fun k s => ∃ x33 x34 x35, s = ⟨[(3, hh 0), (6, Vv (.sl (.int .i64)) a0), (7, I x34), (8, I x35)], [ar 0 (.int .u8) x33 .dp]⟩ ∧ F58_l0 N a0 k x33 x34 x35 = some r) N [.nilS 3 (.int .u8) .dp, .ren [3, 6, 7, 8] [0]] ⟨[], (a0.length : Int), (0 : Int), rfl, h⟩ ?_
  rintro k42 s ⟨x33, x34, x35, rfl, h⟩
  cases k42 with
  | zero => cases show none = some r from h
  | succ k42 =>
   replace h : F58_l0_b N a0 (F58_l0 N a0 k42) x33 x34 x35 = some r := h
   unfold F58_l0_b at h
   refine nR K (tn 1) <| sq ?_
   refine cnd h ?_ ?_<;>intro h
   ·refine VW.skip <| sq <| VW.block ?_
    obtain⟨g46,h⟩:=gS h
    refine nR K (an g46 (tn 2)) <| VW.region <| nG K 2 (tn 2) ?_
    obtain⟨y47,hy,h⟩:=aS h
    refine clc false [.t (.int .i64)] [] (some 14) K (ok25 N _ hy) ?_
    obtain⟨g48,h⟩:=gS h
    refine nN K (an g48 (tn 1)) <| nE K (tn 2) ?_
    exact aro [.ren [3, 6, 7, 8] [0]] ⟨(x33 ++ y47), x34, (wr (x35 + (1 : Int))), rfl, h⟩
   refine VW.exit ?_
   exact arv [.ren [3] [0]] ⟨x33, rfl, h⟩
 rintro s ⟨x24, rfl, h⟩
 unfold F58_j0 at h
 refine nR K (tn 2) ?_
 cases h; exact VW.ret (rt [some 0])
def F59 (N : Nat) (a0 : Bool) : Option (Int) :=
  cond a0 (some (1 : Int)) (some (0 : Int))
theorem ok59 N a0 {r} (h : F59 N a0 = some r) : Con prog 59 [B a0] [.lf (.v (.int .i64) r)] := by
 refine ctr [.lf (.v (.int .i64))] K func59 rfl fun w0 E0 ht => ?_
 unfold F59 at h
 show VW _ _ _ _ _ (retQ _ _ _ _) _
 refine nR K (tn 1) <| sq <| nR K (tn 1) ?_
 refine cnd h ?_ ?_<;>intro h
 ·refine nR K (tn 1) ?_
  cases h; exact VW.ret (rt [])
 refine VW.skip <| nR K (tn 1) ?_
 cases h; exact VW.ret (rt [])
def F60_j0 (N : Nat) (x37 : (List Int)) : Option ((List Int)) :=
  some x37
def F60_l0_b (N : Nat) (a0 : (List Int)) (nx63 : (List Int) → Int → Int → Option ((List Int))) (x50 : (List Int)) (x51 : Int) (x52 : Int) : Option ((List Int)) :=
  cond (decide (x52 < x51)) (gd (InR x52 a0.length) (andO (F56 N (a0.getD x52.toNat (Ty.dflt (.int .i64)))) fun y71 => cond (!y71) (some ([])) (andO (F25 N (a0.getD x52.toNat (Ty.dflt (.int .i64)))) fun y72 => gd (x50.length + y72.length ≤ lim (.int .u8)) (nx63 (x50 ++ y72) x51 (IntKind.i64.wrap (x52 + (1 : Int))))))) (F60_j0 N x50)
def F60_l0 (N : Nat) (a0 : (List Int)) := loopF (F60_l0_b N a0) (fun _ _ _ => none)
theorem F60_l0_s N a0 {k} (hk : 0 < k) x50 x51 x52 : F60_l0 N a0 k x50 x51 x52 = F60_l0_b N a0 (F60_l0 N a0 (k - 1)) x50 x51 x52 := by cases k;cases hk;rfl
def F60 (N : Nat) (a0 : (List Int)) : Option ((List Int)) :=
  cond (decide ((a0.length : Int) > (300 : Int))) (some ([])) (andO (F25 N (a0.length : Int)) fun y1 => F60_l0 N a0 N y1 (a0.length : Int) (0 : Int))
theorem ok60 N a0 {r} (h : F60 N a0 = some r) : Con prog 60 [Vv (.sl (.int .i64)) a0] [.lf (.own (.int .u8) r .dp)] := by
 refine ctr [.lf (.own (.int .u8) .dp)] K func60 rfl fun w0 E0 ht => ?_
 unfold F60 at h
 show VW _ _ _ _ _ (retQ _ _ _ _) _
 refine nR K (tn 1) <| sq <| nR K (tn 3) ?_
 refine cnd h ?_ ?_<;>intro h
 ·refine nR K (tn 1) ?_
  cases h; exact VW.ret (rt [none])
 refine VW.skip <| sq <| VW.region <| nG K 2 (tn 2) ?_
 obtain⟨y1,hy,h⟩:=aS h
 refine clc false [.t (.int .i64)] [] (some 11) K (ok25 N _ hy) <| nN K (tn 1) ?_
 refine VW.join (fun s => ∃ x37, s = ⟨[(3, hh 0)], [ar 0 (.int .u8) x37 .dp]⟩ ∧ F60_j0 N x37 = some r) ?_ ?_
 ·refine nR K (tn 3) <| VW.block <| lop (fun k s => ∃ x50 x51 x52, s = ⟨[(3, hh 0), (12, Vv (.sl (.int .i64)) a0), (13, I x51), (14, I x52)], [ar 0 (.int .u8) x50 .dp]⟩ ∧ F60_l0 N a0 k x50 x51 x52 = some r) N [.ren [3, 12, 13, 14] [0]] ⟨y1, (a0.length : Int), (0 : Int), rfl, h⟩ ?_
  rintro k63 s ⟨x50, x51, x52, rfl, h⟩
  cases k63 with
  | zero => cases show none = some r from h
  | succ k63 =>
   replace h : F60_l0_b N a0 (F60_l0 N a0 k63) x50 x51 x52 = some r := h
   unfold F60_l0_b at h
   refine nR K (tn 1) <| sq ?_
   refine cnd h ?_ ?_<;>intro h
   ·refine VW.skip <| sq <| VW.block ?_
    obtain⟨g69,h⟩:=gS h
    refine nR K (an g69 (tn 2)) <| sq <| sq <| VW.region <| nG K 1 (tn 1) ?_
    obtain⟨y71,hy,h⟩:=aS h
    refine clc false [.t (.int .i64)] [] (some 19) K (ok56 N _ hy) <| nN K (tn 1) ?_
    refine cnd h ?_ ?_<;>intro h
    ·refine nR K (tn 1) ?_
     cases h; exact VW.ret (rt [none])
    refine VW.skip <| VW.region <| nG K 2 (tn 2) ?_
    obtain⟨y72,hy,h⟩:=aS h
    refine clc false [.t (.int .i64)] [] (some 23) K (ok25 N _ hy) ?_
    obtain⟨g73,h⟩:=gS h
    refine nN K (an g73 (tn 1)) <| nE K (tn 2) ?_
    exact aro [.ren [3, 12, 13, 14] [0]] ⟨(x50 ++ y72), x51, (wr (x52 + (1 : Int))), rfl, h⟩
   refine VW.exit ?_
   exact arv [.ren [3] [0]] ⟨x50, rfl, h⟩
 rintro s ⟨x37, rfl, h⟩
 unfold F60_j0 at h
 refine nR K (tn 2) ?_
 cases h; exact VW.ret (rt [some 0])
def F26 (N : Nat) (a0 : Z44) : Option ((List Int)) :=
  andO (F54 N a0) fun y2 => cond (!y2) (some ([])) (andO (F25 N a0.1) fun y3 => cond (a0.1 == (0 : Int)) (andO (F57 N a0.2.1) fun y18 => gd (y3.length + y18.length ≤ lim (.int .u8)) (some (y3 ++ y18))) (cond (a0.1 == (1 : Int)) (andO (F59 N a0.2.2.2.2.2.1) fun y20 => andO (F58 N ([a0.2.2.1, a0.2.2.2.1, y20, a0.2.2.2.2.1])) fun y21 => gd (y3.length + y21.length ≤ lim (.int .u8)) (some (y3 ++ y21))) (cond (a0.1 == (2 : Int)) (andO (F60 N a0.2.2.2.2.2.2) fun y23 => gd (y3.length + y23.length ≤ lim (.int .u8)) (some (y3 ++ y23))) (cond (a0.1 == (3 : Int)) (andO (F58 N ([a0.2.2.1, a0.2.2.2.2.1])) fun y25 => gd (y3.length + y25.length ≤ lim (.int .u8)) (some (y3 ++ y25))) (cond (a0.1 == (5 : Int)) (andO (F58 N ([a0.2.2.1])) fun y27 => gd (y3.length + y27.length ≤ lim (.int .u8)) (some (y3 ++ y27))) (cond (a0.1 == (6 : Int)) (andO (F59 N a0.2.2.2.2.2.1) fun y29 => andO (F58 N ([y29, a0.2.2.2.2.1])) fun y30 => gd (y3.length + y30.length ≤ lim (.int .u8)) (some (y3 ++ y30))) (some y3)))))))
theorem ok26 N a0 {r} (h : F26 N a0 = some r) : Con prog 26 [.agg (lv Y44 a0)] [.lf (.own (.int .u8) r .dp)] := by
 refine ctr [.lf (.own (.int .u8) .dp)] K func26 rfl fun w0 E0 ht => ?_
 unfold F26 at h
 show VW _ _ _ _ _ (retQ _ _ _ _) _
 refine nR K (tn 2) <| sq <| sq <| VW.region <| nG K 1 (tn 1) ?_
 obtain⟨y2,hy,h⟩:=aS h
 refine clc false [.t Y44] [] (some 5) K (ok54 N _ hy) <| nN K (tn 1) ?_
 refine cnd h ?_ ?_<;>intro h
 ·refine nR K (tn 1) ?_
  cases h; exact VW.ret (rt [none])
 refine VW.skip <| sq <| VW.region <| nG K 2 (tn 2) ?_
 obtain⟨y3,hy,h⟩:=aS h
 refine clc false [.t (.int .i64)] [] (some 9) K (ok25 N _ hy) <| nN K (tn 1) <| sq <| nR K (tn 2) <| VW.block <| nR K (tn 2) ?_
 refine cnd h ?_ ?_<;>intro h
 ·refine sq <| VW.region <| nG K 3 (tn 3) ?_
  obtain⟨y18,hy,h⟩:=aS h
  refine clc false [.t .str] [] (some 17) K (ok57 N _ hy) ?_
  obtain⟨g19,h⟩:=gS h
  refine nN K (an g19 (tn 1)) ?_
  cases h; exact VW.ret (rt [some 1])
 refine nR K (tn 2) ?_
 refine cnd h ?_ ?_<;>intro h
 ·refine sq ?_
  obtain⟨y20,hy20,h⟩:=aS h
  obtain⟨y21,hy21,h⟩:=aS h
  obtain⟨g22,h⟩:=gS h
  refine dr K [(7, .cl [] (some 28) [.lf (.v (.int .i64) y20)]), (11, .cl [] (some 32) [.lf (.own (.int .u8) y21 .dp)])] [(7, 0), (11, 1)] [10, 11, 12] [2] [1] (pu 12 (an g22 (tn 1))) ⟨qC false [.t .bool] [] [] (some 28) K (ok59 N _ hy20), qC true [.t (.sl (.int .i64))] [] [] (some 32) K (ok58 N _ hy21), trivial⟩ ?_
  cases h; exact VW.ret (rt [some 0])
 refine nR K (tn 2) ?_
 refine cnd h ?_ ?_<;>intro h
 ·refine sq <| VW.region <| nG K 3 (tn 3) ?_
  obtain⟨y23,hy,h⟩:=aS h
  refine clc false [.t (.sl (.int .i64))] [] (some 39) K (ok60 N _ hy) ?_
  obtain⟨g24,h⟩:=gS h
  refine nN K (an g24 (tn 1)) ?_
  cases h; exact VW.ret (rt [some 1])
 refine nR K (tn 2) ?_
 refine cnd h ?_ ?_<;>intro h
 ·refine sq <| VW.region <| nG K 6 (tn 6) ?_
  obtain⟨y25,hy,h⟩:=aS h
  refine clc true [.t (.sl (.int .i64))] [] (some 49) K (ok58 N _ hy) ?_
  obtain⟨g26,h⟩:=gS h
  refine nN K (an g26 (tn 1)) ?_
  cases h; exact VW.ret (rt [some 1])
 refine nR K (tn 2) ?_
 refine cnd h ?_ ?_<;>intro h
 ·refine sq <| VW.region <| nG K 4 (tn 4) ?_
  obtain⟨y27,hy,h⟩:=aS h
  refine clc true [.t (.sl (.int .i64))] [] (some 57) K (ok58 N _ hy) ?_
  obtain⟨g28,h⟩:=gS h
  refine sN K [2] [1] ⟨[(2, hh 0)], [ar 0 (.int .u8) (y3 ++ y27) .dp]⟩ (an g28 (tn 1)) ?_
  cases h; exact VW.ret (rt [some 0])
 refine nR K (tn 2) ?_
 refine cnd h ?_ ?_<;>intro h
 ·refine sq ?_
  obtain⟨y29,hy29,h⟩:=aS h
  obtain⟨y30,hy30,h⟩:=aS h
  obtain⟨g31,h⟩:=gS h
  refine dr K [(3, .cl [] (some 64) [.lf (.v (.int .i64) y29)]), (7, .cl [] (some 68) [.lf (.own (.int .u8) y30 .dp)])] [(3, 0), (7, 1)] [6, 7, 8] [2] [1] (pu 8 (an g31 (tn 1))) ⟨qC false [.t .bool] [] [] (some 64) K (ok59 N _ hy29), qC true [.t (.sl (.int .i64))] [] [] (some 68) K (ok58 N _ hy30), trivial⟩ ?_
  cases h; exact VW.ret (rt [some 0])
 refine VW.skip <| sR K [2] [1] ⟨[(2, hh 0)], [ar 0 (.int .u8) y3 .dp]⟩ (tn 2) ?_
 cases h; exact VW.ret (rt [some 0])
def F28_j0 (N : Nat) (x12 : Int) : Option (Int) :=
  some x12
def F28_l0_b (N : Nat) (a0 : (List Int)) (nx22 : Int → Int → Int → Option (Int)) (x17 : Int) (x18 : Int) (x19 : Int) : Option (Int) :=
  cond (decide (x19 < x18)) (gd (InR x19 a0.length) (nx22 (Int.tmod (IntKind.i64.wrap ((IntKind.i64.wrap ((269 : Int) * x17)) + (IntKind.i64.wrap (a0.getD x19.toNat (Ty.dflt (.int .u8)))))) (999983 : Int)) x18 (IntKind.i64.wrap (x19 + (1 : Int))))) (F28_j0 N x17)
def F28_l0 (N : Nat) (a0 : (List Int)) := loopF (F28_l0_b N a0) (fun _ _ _ => none)
theorem F28_l0_s N a0 {k} (hk : 0 < k) x17 x18 x19 : F28_l0 N a0 k x17 x18 x19 = F28_l0_b N a0 (F28_l0 N a0 (k - 1)) x17 x18 x19 := by cases k;cases hk;rfl
def F28 (N : Nat) (a0 : (List Int)) : Option (Int) :=
  F28_l0 N a0 N (5 : Int) (a0.length : Int) (0 : Int)
theorem ok28 N a0 {r} (h : F28 N a0 = some r) : Con prog 28 [Vv (.sl (.int .u8)) a0] [.lf (.v (.int .i64) r)] := by
 refine ctr [.lf (.v (.int .i64))] K func28 rfl fun w0 E0 ht => ?_
 unfold F28 at h
 show VW _ _ _ _ _ (retQ _ _ _ _) _
 refine nR K (tn 1) <| nR K (tn 1) ?_
 refine VW.join (fun s => ∃ x12, s = ⟨[(3, I x12)], []⟩ ∧ F28_j0 N x12 = some r) ?_ ?_
 ·refine nR K (tn 3) <| VW.block <| lop (fun k s => ∃ x17 x18 x19, s = ⟨[(3, I x17), (6, Vv (.sl (.int .u8)) a0), (7, I x18), (8, I x19)], []⟩ ∧ F28_l0 N a0 k x17 x18 x19 = some r) N [.ren [3, 6, 7, 8] []] ⟨(5 : Int), (a0.length : Int), (0 : Int), rfl, h⟩ ?_
  rintro k22 s ⟨x17, x18, x19, rfl, h⟩
  cases k22 with
  | zero => cases show none = some r from h
  | succ k22 =>
   replace h : F28_l0_b N a0 (F28_l0 N a0 k22) x17 x18 x19 = some r := h
   unfold F28_l0_b at h
   refine nR K (tn 1) <| sq ?_
   refine cnd h ?_ ?_<;>intro h
   ·refine VW.skip <| sq <| VW.block ?_
    obtain⟨g24,h⟩:=gS h
    refine nR K (an g24 (tn 2)) <| nE K (pu 5 (an (show ((999983 : Int) ≠ 0) from by decide) (tn 1))) <| nE K (tn 2) ?_
    exact aro [.ren [3, 6, 7, 8] []] ⟨(Int.tmod (wr ((wr ((269 : Int) * x17)) + (wr (a0.getD x19.toNat (Ty.dflt (.int .u8)))))) (999983 : Int)), x18, (wr (x19 + (1 : Int))), rfl, h⟩
   refine VW.exit ?_
   exact arv [.ren [3] []] ⟨x17, rfl, h⟩
 rintro s ⟨x12, rfl, h⟩
 unfold F28_j0 at h
 refine nR K (tn 2) ?_
 cases h; exact VW.ret (rt [])
def F87_j0 (N : Nat) (x4 : (List Int)) : Option ((List Int)) :=
  some x4
def F87 (N : Nat) (a0 : (List Int)) (a1 : Int) : Option ((List Int)) :=
  cond (decide (a1 < (0 : Int))) (none) (cond (decide ((IntKind.i64.wrap (a1 - (IntKind.i64.wrap ((0 : Int) - (0 : Int))))) > (0 : Int))) (gd ((0 : Int) = (0 : Int)) (gd (0 ≤ (IntKind.i64.wrap (a1 - (IntKind.i64.wrap ((0 : Int) - (0 : Int))))) ∧ (IntKind.i64.wrap (a1 - (IntKind.i64.wrap ((0 : Int) - (0 : Int))))) ≤ (lim (.int .u8) : Int)) (gd (0 ≤ (0 : Int) ∧ (0 : Int) ≤ ((List.replicate (IntKind.i64.wrap (a1 - (IntKind.i64.wrap ((0 : Int) - (0 : Int))))).toNat (Ty.dflt (.int .u8))).length : Int)) (F87_j0 N ((List.replicate (IntKind.i64.wrap (a1 - (IntKind.i64.wrap ((0 : Int) - (0 : Int))))).toNat (Ty.dflt (.int .u8))).take ((0 : Int).toNat)))))) (F87_j0 N ([])))
theorem ok87 N a0 a1 {r} (h : F87 N a0 a1 = some r) : Con prog 87 [.lf (.nil), I a1] [.lf (.own (.int .u8) r .dp)] := by
 refine ctr [.lf (.own (.int .u8) .dp)] K func87 rfl fun w0 E0 ht => ?_
 unfold F87 at h
 show VW _ _ _ _ _ (retQ _ _ _ _) _
 refine nR K (tn 1) <| sq <| nR K (tn 2) ?_
 refine cnd h ?_ ?_<;>intro h
 ·exact nomatch h
 refine VW.skip ?_
 refine VW.join (fun s => ∃ x4, s = ⟨[(0, hh 0)], [ar 0 (.int .u8) x4 .dp]⟩ ∧ F87_j0 N x4 = some r) ?_ ?_
 ·refine sq <| VW.region <| nG K 2 (tn 2) <| VO.capN (d := 10) (v := I (0 : Int)) K (by kernel_rfl) <| nN K (tn 5) <| nR K (tn 2) ?_
  refine cnd h ?_ ?_<;>intro h
  ·refine VW.region <| nG K 2 (tn 2) <| VO.capN (d := 19) (v := I (0 : Int)) K (by kernel_rfl) ?_
   obtain⟨g6,h⟩:=gS h
   refine VO.cutN (d := 20) (φ := (0 : Int) = (0 : Int)) (v := .lf .nil) K (by kernel_rfl) g6 <| nG K 1 (tn 1) ?_
   obtain⟨g7,h⟩:=gS h
   refine VO.appZ (d := 22) (φ := 0 ≤ (wr (a1 - (wr ((0 : Int) - (0 : Int))))) ∧ (wr (a1 - (wr ((0 : Int) - (0 : Int))))) ≤ (lim (.int .u8) : Int)) (v := hh 0) (H' := [ar 0 (.int .u8) (List.replicate (wr (a1 - (wr ((0 : Int) - (0 : Int))))).toNat (Ty.dflt (.int .u8))) .dp]) K (by kernel_rfl) g7 ?_
   obtain⟨g8,h⟩:=gS h
   refine nN K (pu 2 (an g8 (tn 1))) ?_
   exact arv [.shr 0, .ren [0] [0]] ⟨((List.replicate (wr (a1 - (wr ((0 : Int) - (0 : Int))))).toNat (Ty.dflt (.int .u8))).take ((0 : Int).toNat)), rfl, h⟩
  refine VW.skip ?_
  exact arv [.nilS 0 (.int .u8) .dp, .ren [0] [0]] ⟨[], rfl, h⟩
 rintro s ⟨x4, rfl, h⟩
 unfold F87_j0 at h
 refine nR K (tn 2) ?_
 cases h; exact VW.ret (rt [some 0])
def F61_j0 (N : Nat) (x31 : (List Int)) : Option ((List Int)) :=
  some x31
def F61_l0_b (N : Nat) (a0 : (List (List Int))) (nx45 : (List Int) → Int → Int → Option ((List Int))) (x38 : (List Int)) (x39 : Int) (x40 : Int) : Option ((List Int)) :=
  cond (decide (x40 < x39)) (gd (InR x40 a0.length) (gd (x38.length + (a0.getD x40.toNat (Ty.dflt (.sl (.int .u8)))).length ≤ lim (.int .u8)) (nx45 (x38 ++ (a0.getD x40.toNat (Ty.dflt (.sl (.int .u8))))) x39 (IntKind.i64.wrap (x40 + (1 : Int)))))) (F61_j0 N x38)
def F61_l0 (N : Nat) (a0 : (List (List Int))) := loopF (F61_l0_b N a0) (fun _ _ _ => none)
theorem F61_l0_s N a0 {k} (hk : 0 < k) x38 x39 x40 : F61_l0 N a0 k x38 x39 x40 = F61_l0_b N a0 (F61_l0 N a0 (k - 1)) x38 x39 x40 := by cases k;cases hk;rfl
def F61_j1 (N : Nat) (a0 : (List (List Int))) (x12 : Int) : Option ((List Int)) :=
  andO (F87 N ([]) x12) fun y13 => F61_l0 N a0 N y13 (a0.length : Int) (0 : Int)
def F61_l1_b (N : Nat) (a0 : (List (List Int))) (nx59 : Int → Int → Int → Option ((List Int))) (x54 : Int) (x55 : Int) (x56 : Int) : Option ((List Int)) :=
  cond (decide (x56 < x55)) (gd (InR x56 a0.length) (cond (decide ((IntKind.i64.wrap (x54 + ((a0.getD x56.toNat (Ty.dflt (.sl (.int .u8)))).length : Int))) < (0 : Int))) (none) (nx59 (IntKind.i64.wrap (x54 + ((a0.getD x56.toNat (Ty.dflt (.sl (.int .u8)))).length : Int))) x55 (IntKind.i64.wrap (x56 + (1 : Int)))))) (F61_j1 N a0 x54)
def F61_l1 (N : Nat) (a0 : (List (List Int))) := loopF (F61_l1_b N a0) (fun _ _ _ => none)
theorem F61_l1_s N a0 {k} (hk : 0 < k) x54 x55 x56 : F61_l1 N a0 k x54 x55 x56 = F61_l1_b N a0 (F61_l1 N a0 (k - 1)) x54 x55 x56 := by cases k;cases hk;rfl
def F61 (N : Nat) (a0 : (List (List Int))) : Option ((List Int)) :=
  F61_l1 N a0 N (0 : Int) (a0.length : Int) (0 : Int)
theorem ok61 N a0 {r} (h : F61 N a0 = some r) : Con prog 61 [Vv (.sl (.sl (.int .u8))) a0] [.lf (.own (.int .u8) r .dp)] := by
 refine ctr [.lf (.own (.int .u8) .dp)] K func61 rfl fun w0 E0 ht => ?_
 unfold F61 at h
 show VW _ _ _ _ _ (retQ _ _ _ _) _
 refine nR K (tn 1) <| nR K (tn 1) ?_
 refine VW.join (fun s => ∃ x12, s = ⟨[(0, Vv (.sl (.sl (.int .u8))) a0), (3, I x12)], []⟩ ∧ F61_j1 N a0 x12 = some r) ?_ ?_
 ·refine nR K (tn 3) <| VW.block <| lop (fun k s => ∃ x54 x55 x56, s = ⟨[(0, Vv (.sl (.sl (.int .u8))) a0), (3, I x54), (9, Vv (.sl (.sl (.int .u8))) a0), (10, I x55), (11, I x56)], []⟩ ∧ F61_l1 N a0 k x54 x55 x56 = some r) N [.ren [0, 3, 9, 10, 11] []] ⟨(0 : Int), (a0.length : Int), (0 : Int), rfl, h⟩ ?_
  rintro k59 s ⟨x54, x55, x56, rfl, h⟩
  cases k59 with
  | zero => cases show none = some r from h
  | succ k59 =>
   replace h : F61_l1_b N a0 (F61_l1 N a0 k59) x54 x55 x56 = some r := h
   unfold F61_l1_b at h
   refine nR K (tn 1) <| sq ?_
   refine cnd h ?_ ?_<;>intro h
   ·refine VW.skip <| sq <| VW.block ?_
    obtain⟨g61,h⟩:=gS h
    refine nR K (an g61 (tn 2)) <| nR K (tn 5) <| nR K (tn 2) ?_
    refine cnd h ?_ ?_<;>intro h
    ·exact nomatch h
    refine VW.skip <| nE K (tn 2) ?_
    exact aro [.ren [0, 3, 9, 10, 11] []] ⟨(wr (x54 + ((a0.getD x56.toNat (Ty.dflt (.sl (.int .u8)))).length : Int))), x55, (wr (x56 + (1 : Int))), rfl, h⟩
   refine VW.exit ?_
   exact arv [.ren [0, 3] []] ⟨x54, rfl, h⟩
 rintro s ⟨x12, rfl, h⟩
 unfold F61_j1 at h
 refine sq <| VW.region <| nG K 1 (tn 1) ?_
 obtain⟨y13,hy,h⟩:=aS h
 refine clc false [.k, .t (.int .i64)] [] (some 24) K (ok87 N _ _ hy) <| nN K (tn 1) ?_
 refine VW.join (fun s => ∃ x31, s = ⟨[(6, hh 0)], [ar 0 (.int .u8) x31 .dp]⟩ ∧ F61_j0 N x31 = some r) ?_ ?_
 ·refine nR K (tn 3) <| VW.block <| lop (fun k s => ∃ x38 x39 x40, s = ⟨[(6, hh 0), (25, Vv (.sl (.sl (.int .u8))) a0), (26, I x39), (27, I x40)], [ar 0 (.int .u8) x38 .dp]⟩ ∧ F61_l0 N a0 k x38 x39 x40 = some r) N [.ren [6, 25, 26, 27] [0]] ⟨y13, (a0.length : Int), (0 : Int), rfl, h⟩ ?_
  rintro k45 s ⟨x38, x39, x40, rfl, h⟩
  cases k45 with
  | zero => cases show none = some r from h
  | succ k45 =>
   replace h : F61_l0_b N a0 (F61_l0 N a0 k45) x38 x39 x40 = some r := h
   unfold F61_l0_b at h
   refine nR K (tn 1) <| sq ?_
   refine cnd h ?_ ?_<;>intro h
   ·refine VW.skip <| sq <| VW.block ?_
    obtain⟨g48,h⟩:=gS h
    refine nR K (an g48 (tn 2)) ?_
    obtain⟨g49,h⟩:=gS h
    refine nE K (pu 2 (an g49 (tn 1))) <| nE K (tn 2) ?_
    exact aro [.ren [6, 25, 26, 27] [0]] ⟨(x38 ++ (a0.getD x40.toNat (Ty.dflt (.sl (.int .u8))))), x39, (wr (x40 + (1 : Int))), rfl, h⟩
   refine VW.exit ?_
   exact arv [.ren [6] [0]] ⟨x38, rfl, h⟩
 rintro s ⟨x31, rfl, h⟩
 unfold F61_j0 at h
 refine nR K (tn 2) ?_
 cases h; exact VW.ret (rt [some 0])
def F27 (N : Nat) (a0 : (List Int)) : Option ((List Int) × Bool) :=
  cond (decide ((a0.length : Int) > (4000 : Int))) (some ([], false)) (gd (0 < ([(80 : Int), (83 : Int)]).length) (andO (F25 N (a0.length : Int)) fun y2 => andO (F28 N a0) fun y3 => andO (F25 N y3) fun y4 => andO (F61 N ([[(80 : Int), (83 : Int)], y2, a0, y4])) fun y5 => some (y5, true)))
theorem ok27 N a0 {r} (h : F27 N a0 = some r) : Con prog 27 [Vv (.sl (.int .u8)) a0] [.lf (.own (.int .u8) r.1 .dp), .lf (.v .bool r.2)] := by
 refine ctr [.lf (.own (.int .u8) .dp), .lf (.v .bool)] K func27 rfl fun w0 E0 ht => ?_
 unfold F27 at h
 show VW _ _ _ _ _ (retQ _ _ _ _) _
 refine nR K (tn 2) <| sq <| nR K (tn 3) ?_
 refine cnd h ?_ ?_<;>intro h
 ·refine nR K (tn 2) ?_
  cases h; exact VW.ret (rt [none])
 refine VW.skip <| sq <| VW.region <| nG K 1 (tn 1) ?_
 obtain⟨g1,h⟩:=gS h
 refine VO.mark (d := 8) (φ := 0 < ([(80 : Int), (83 : Int)]).length) (v := Vv (.sl (.int .u8)) ([(80 : Int), (83 : Int)])) (H' := [none]) K (by kernel_rfl) g1 <| nG K 2 (tn 2) ?_
 obtain⟨y2,hy,h⟩:=aS h
 refine clc false [.t (.int .i64)] [] (some 11) K (ok25 N _ hy) <| nG K 2 (tn 2) ?_
 obtain⟨y3,hy,h⟩:=aS h
 refine clc false [.t (.sl (.int .u8))] [] (some 14) K (ok28 N _ hy) ?_
 obtain⟨y4,hy,h⟩:=aS h
 refine clc false [.t (.int .i64)] [] (some 15) K (ok25 N _ hy) <| VO.ghl [.frz 1, .frz 2] <| nG K 1 (tn 1) ?_
 obtain⟨y5,hy,h⟩:=aS h
 refine clc true [.t (.sl (.sl (.int .u8)))] [] (some 17) K (ok61 N _ hy) <| nN K (tn 2) ?_
 cases h; exact VW.ret (rt [some 4])
end Go.Proofs.Ytnkgeljjjeeaaaa.Vc
