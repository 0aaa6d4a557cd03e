/- What functions of the program compute, and that they do. -/
import Derived.Test.YtmkhmpcealeidaaGreatXc
import Derived.Test.YtmkhmpcealeidaaGreatProg
import Derived.Test.YtmkhmpcealeidaaGreatShelf
namespace Go.Proofs.YtmkhmpcealeidaaGreat.Vc
open Go Go.RowKit Go.Proofs.Tryz
set_option linter.unusedVariables false
set_option maxRecDepth 100000
set_option maxHeartbeats 4000000
abbrev Y7 : Ty := .pair (.int .i64) (.pair (.int .i64) (.pair .bool (.int .u8)))
abbrev Y13 : Ty := .pair .str (.int .u64)
abbrev Y50 : Ty := .pair (.int .i64) (.pair .str (.pair (.int .i64) (.pair (.int .i64) (.pair (.int .i64) (.pair .bool (.sl (.int .i64)))))))
abbrev Z50 := (Int × (ByteArray × (Int × (Int × (Int × (Bool × (List Int)))))))
abbrev Y84 : Ty := .pair (.sl (.int .u8)) (.pair (.int .i64) (.int .i64))
abbrev Z84 := ((List Int) × (Int × Int))
abbrev Y99 : Ty := .pair .str (.int .i64)
abbrev D50 : (Y50).den := Ty.dflt Y50
def TL : List (Nat × TI) := [(2, { ty := (.int .i64) }),
  (3, { ty := (.int .i64) }),
  (4, { ty := .bool }),
  (5, { ty := (.int .u8) }),
  (6, { ty := (.int .u8) }),
  (7, { ty := Y7, offs := [0, 1, 2, 3], szs := [1, 1, 1, 1] }),
  (8, { ty := Y7, offs := [0, 1, 2, 3], szs := [1, 1, 1, 1] }),
  (9, { ty := .str }),
  (10, { ty := .str }),
  (11, { ty := .str }),
  (12, { ty := (.int .u64) }),
  (13, { ty := Y13, offs := [0, 1], szs := [1, 1] }),
  (14, { ty := Y13, offs := [0, 1], szs := [1, 1] }),
  (21, { ty := (.int .i32) }),
  (22, { ty := (.sl (.int .u8)), elem := 5 }),
  (24, { ty := (.sl Y50), elem := 51 }),
  (26, { ty := (.sl (.int .i64)), elem := 3 }),
  (39, { ty := (.sl Y99), elem := 100 }),
  (40, { ty := (.sl (.sl (.sl (.int .i64)))), elem := 43 }),
  (43, { ty := (.sl (.sl (.int .i64))), elem := 26 }),
  (50, { ty := Y50, offs := [0, 1, 2, 3, 4, 5, 6], szs := [1, 1, 1, 1, 1, 1, 1] }),
  (51, { ty := Y50, offs := [0, 1, 2, 3, 4, 5, 6], szs := [1, 1, 1, 1, 1, 1, 1] }),
  (84, { ty := Y84, offs := [0, 1, 2], szs := [1, 1, 1] }),
  (85, { ty := Y84, offs := [0, 1, 2], szs := [1, 1, 1] }),
  (90, { ty := (.int .u64) }),
  (99, { ty := Y99, offs := [0, 1], szs := [1, 1] }),
  (100, { ty := Y99, offs := [0, 1], szs := [1, 1] }),
  (103, { ty := (.sl .str), elem := 9 }),
  (123, { ty := (.int .i64) }),
  (132, { ty := (.int .u32) }),
  (134, { ty := (.int .u64) }),
  (144, { ty := (.sl (.sl Y50)), elem := 24 }),
  (158, { ty := (.int .u64) }),
  (164, { ty := (.sl (.sl (.int .u8))), elem := 22 }),
  (177, { ty := (.int .u8) }),
  (178, { ty := (.int .u8) }),
  (181, { ty := (.int .i32) }),
  (182, { ty := (.int .i32) })]
abbrev T : Tab := lookT TL
theorem T_ok : TabOk Go.Proofs.Tryz.prog T := tabOk_of TL (by kernel_rfl)
theorem K : TabOk Go.Proofs.Tryz.prog T := T_ok
theorem T_rec : RecOk Go.Proofs.Tryz.prog T := recOk_of TL (by kernel_rfl)
def F5 (N : Nat) (a0 : (List Int)) : Option (Bool) :=
  some (decide ((a0.length : Int) > (1048576 : Int)))
theorem ok5 N a0 {r} (h : F5 N a0 = some r) : Con prog 5 [Vv (.sl (.int .u8)) a0] [.lf (.v .bool r)] := by
 refine ctr [.lf (.v .bool)] K func5 rfl fun w0 E0 ht => ?_
 unfold F5 at h
 show VW _ _ _ _ _ (retQ _ _ _ _) _
 refine nR K (tn 1) <| nR K (tn 4) ?_
 cases h; exact VW.ret (rt [])
def F33_j0 (N : Nat) (a0 : (List Int)) (x11 : Int) : Option (Z84) :=
  some (a0, ((0 : Int), x11))
def F33_l0_b (N : Nat) (a0 : (List Int)) (nx20 : Int → Int → Option (Z84)) (x16 : Int) (x17 : Int) : Option (Z84) :=
  cond (decide (x17 < (a0.length : Int))) (cond (decide (x17 < (4000 : Int))) (gd (InR x17 a0.length) (nx20 (IntKind.i64.wrap (((BitVec.ofInt IntKind.i64.bits (IntKind.i64.wrap ((IntKind.i64.wrap ((IntKind.i64.wrap (x16 * (149 : Int))) + (IntKind.i64.wrap (a0.getD x17.toNat (Ty.dflt (.int .u8)))))) + (11 : Int))) &&& BitVec.ofInt IntKind.i64.bits (1073741823 : Int)).toNat : Nat) : Int)) (IntKind.i64.wrap (x17 + (1 : Int))))) (F33_j0 N a0 x16)) (F33_j0 N a0 x16)
def F33_l0 (N : Nat) (a0 : (List Int)) := loopF (F33_l0_b N a0) (fun _ _ => none)
theorem F33_l0_s N a0 {k} (hk : 0 < k) x16 x17 : F33_l0 N a0 k x16 x17 = F33_l0_b N a0 (F33_l0 N a0 (k - 1)) x16 x17 := by cases k;cases hk;rfl
def F33 (N : Nat) (a0 : (List Int)) : Option (Z84) :=
  F33_l0 N a0 N (IntKind.i64.wrap ((844844 : Int) + (a0.length : Int))) (0 : Int)
theorem ok33 N a0 {r} (h : F33 N a0 = some r) : ConB prog 33 [Vv (.sl (.int .u8)) a0] [.v (.sl (.int .u8)) r.1, .v (.int .i64) r.2.1, .v (.int .i64) r.2.2] 85 := by
 refine ⟨enters_of func33 rfl (by decide), by kernel_rfl, HB.intro (d := 2) func33 rfl (Nat.le_of_ble_eq_true rfl) (Nat.le_of_ble_eq_true rfl) rfl (by kernel_rfl) fun w0 E0 ht => ?_⟩
 unfold F33 at h
 show VW _ _ _ _ _ (retB _ _ _) _
 refine nR K (tn 1) <| nR K (tn 4) ?_
 refine VW.join (fun s => ∃ x11, s = ⟨[(0, Vv (.sl (.int .u8)) a0), (3, I x11)], []⟩ ∧ F33_j0 N a0 x11 = some r) ?_ ?_
 ·refine nR K (tn 1) <| VW.block <| lop (fun k s => ∃ x16 x17, s = ⟨[(0, Vv (.sl (.int .u8)) a0), (3, I x16), (4, I x17)], []⟩ ∧ F33_l0 N a0 k x16 x17 = some r) N [.ren [0, 3, 4] []] ⟨(wr ((844844 : Int) + (a0.length : Int))), (0 : Int), rfl, h⟩ ?_
  rintro k20 s ⟨x16, x17, rfl, h⟩
  cases k20 with
  | zero => cases show none = some r from h
  | succ k20 =>
   replace h : F33_l0_b N a0 (F33_l0 N a0 k20) x16 x17 = some r := h
   unfold F33_l0_b at h
   refine sq <| sq <| VW.region <| nG K 5 (tn 5) ?_
   refine spC 12 h ?_ ?_<;>intro h
   ·refine nN K (tn 3) ?_
    refine cnd h ?_ ?_<;>intro h
    ·refine VW.skip <| sq <| VW.block ?_
     obtain⟨g22,h⟩:=gS h
     refine nE K (pu 4 (an g22 (tn 6))) <| nE K (tn 3) ?_
     exact aro [.ren [0, 3, 4] []] ⟨(wr (((BitVec.ofInt IntKind.i64.bits (wr ((wr ((wr (x16 * (149 : Int))) + (wr (a0.getD x17.toNat (Ty.dflt (.int .u8)))))) + (11 : Int))) &&& BitVec.ofInt IntKind.i64.bits (1073741823 : Int)).toNat : Nat) : Int)), (wr (x17 + (1 : Int))), rfl, h⟩
    refine VW.exit ?_
    exact arv [.ren [0, 3] []] ⟨x16, rfl, h⟩
   refine nN K (tn 3) ?_
   refine VW.cond (b := false) (by kernel_rfl) (fun h' => nomatch h') (fun _ => ?_)
   refine VW.exit ?_
   exact arv [.ren [0, 3] []] ⟨x16, rfl, h⟩
 rintro s ⟨x11, rfl, h⟩
 unfold F33_j0 at h
 refine nR K (tn 5) ?_
 replace h := Option.some.inj h
 subst h
 refine VW.ret ?_
 exact ⟨0, 0, by kernel_rfl, by kernel_rfl⟩
def F95_j0 (N : Nat) (x2 : Int) (x3 : (List Int)) (x4 : Int) (x5 : Int) : Option (Z84 × Int) :=
  some ((x3, (x4, x5)), x2)
def F95 (N : Nat) (a0 : Z84) : Option (Z84 × Int) :=
  cond (decide (a0.2.1 < (a0.1.length : Int))) (gd (InR a0.2.1 a0.1.length) (F95_j0 N (IntKind.i64.wrap (((BitVec.ofInt IntKind.i64.bits (IntKind.i64.wrap ((IntKind.i64.wrap (((BitVec.ofInt IntKind.i64.bits (IntKind.i64.wrap (((BitVec.ofInt IntKind.i64.bits (Int.fdiv (IntKind.i64.wrap ((IntKind.i64.wrap (a0.2.2 * (6364136223846793005 : Int))) + (1442695040888963407 : Int))) (2 ^ (min (33 : Int).toNat IntKind.i64.bits))) ^^^ BitVec.ofInt IntKind.i64.bits (Int.fdiv (IntKind.i64.wrap ((IntKind.i64.wrap (a0.2.2 * (6364136223846793005 : Int))) + (1442695040888963407 : Int))) (2 ^ (min (45 : Int).toNat IntKind.i64.bits)))).toNat : Nat) : Int)) &&& BitVec.ofInt IntKind.i64.bits (255 : Int)).toNat : Nat) : Int)) + (IntKind.i64.wrap (a0.1.getD a0.2.1.toNat (Ty.dflt (.int .u8)))))) &&& BitVec.ofInt IntKind.i64.bits (255 : Int)).toNat : Nat) : Int)) a0.1 (IntKind.i64.wrap (a0.2.1 + (1 : Int))) (IntKind.i64.wrap ((IntKind.i64.wrap (a0.2.2 * (6364136223846793005 : Int))) + (1442695040888963407 : Int))))) (F95_j0 N (IntKind.i64.wrap (((BitVec.ofInt IntKind.i64.bits (IntKind.i64.wrap (((BitVec.ofInt IntKind.i64.bits (Int.fdiv (IntKind.i64.wrap ((IntKind.i64.wrap (a0.2.2 * (6364136223846793005 : Int))) + (1442695040888963407 : Int))) (2 ^ (min (33 : Int).toNat IntKind.i64.bits))) ^^^ BitVec.ofInt IntKind.i64.bits (Int.fdiv (IntKind.i64.wrap ((IntKind.i64.wrap (a0.2.2 * (6364136223846793005 : Int))) + (1442695040888963407 : Int))) (2 ^ (min (45 : Int).toNat IntKind.i64.bits)))).toNat : Nat) : Int)) &&& BitVec.ofInt IntKind.i64.bits (255 : Int)).toNat : Nat) : Int)) a0.1 a0.2.1 (IntKind.i64.wrap ((IntKind.i64.wrap (a0.2.2 * (6364136223846793005 : Int))) + (1442695040888963407 : Int))))
theorem ok95 N a0 {r} (h : F95 N a0 = some r) : ConM prog 95 [bx (lv Y84 a0) 85] [.lf (.ptr 0 0 0 0)] [.lf (.v (.int .i64) r.2)] [bx (lv Y84 r.1) 85] := by
 refine ⟨enters_of func95 rfl (by decide), HM.intro [.lf (.v (.int .i64))] K func95 rfl (Nat.le_of_ble_eq_true rfl) (Nat.le_of_ble_eq_true rfl) fun w0 E0 ht => ?_⟩
 unfold F95 at h
 show VW _ _ _ _ _ (retM _ _ _ _ _) _
 refine nR K (tn 1) <| nR K (tn 10) <| sq <| dr K [] [] [] [0, 3, 65536] [0] (pu 4 (an (show (0 ≤ (33 : Int)) from by decide) (pu 4 (an (show (0 ≤ (45 : Int)) from by decide) (tn 3))))) trivial ?_
 refine VW.join (fun s => ∃ x2 x3 x4 x5, s = ⟨[(3, I x2), (65536, .lf (.ptr 0 0 0 0))], [bx [.v (.sl (.int .u8)) x3, zi x4, zi x5] 85]⟩ ∧ F95_j0 N x2 x3 x4 x5 = some r) ?_ ?_
 ·refine sq <| dr K [] [] [] [0, 3, 34, 65536] [0] (tn 10) trivial ?_
  refine cnd h ?_ ?_<;>intro h
  ·refine sq ?_
   obtain⟨g7,h⟩:=gS h
   refine dr K [] [] [] [0, 3, 65536] [0] (pu 9 (an g7 (tn 5))) trivial <| nE K (tn 9) ?_
   exact arv [.ren [3, 65536] [0]] ⟨(wr (((BitVec.ofInt IntKind.i64.bits (wr ((wr (((BitVec.ofInt IntKind.i64.bits (wr (((BitVec.ofInt IntKind.i64.bits (Int.fdiv (wr ((wr (a0.2.2 * (6364136223846793005 : Int))) + (1442695040888963407 : Int))) (2 ^ (min (33 : Int).toNat IntKind.i64.bits))) ^^^ BitVec.ofInt IntKind.i64.bits (Int.fdiv (wr ((wr (a0.2.2 * (6364136223846793005 : Int))) + (1442695040888963407 : Int))) (2 ^ (min (45 : Int).toNat IntKind.i64.bits)))).toNat : Nat) : Int)) &&& BitVec.ofInt IntKind.i64.bits (255 : Int)).toNat : Nat) : Int)) + (wr (a0.1.getD a0.2.1.toNat (Ty.dflt (.int .u8)))))) &&& BitVec.ofInt IntKind.i64.bits (255 : Int)).toNat : Nat) : Int)), a0.1, (wr (a0.2.1 + (1 : Int))), (wr ((wr (a0.2.2 * (6364136223846793005 : Int))) + (1442695040888963407 : Int))), rfl, h⟩
  refine VW.skip ?_
  exact arv [.ren [3, 65536] [0]] ⟨(wr (((BitVec.ofInt IntKind.i64.bits (wr (((BitVec.ofInt IntKind.i64.bits (Int.fdiv (wr ((wr (a0.2.2 * (6364136223846793005 : Int))) + (1442695040888963407 : Int))) (2 ^ (min (33 : Int).toNat IntKind.i64.bits))) ^^^ BitVec.ofInt IntKind.i64.bits (Int.fdiv (wr ((wr (a0.2.2 * (6364136223846793005 : Int))) + (1442695040888963407 : Int))) (2 ^ (min (45 : Int).toNat IntKind.i64.bits)))).toNat : Nat) : Int)) &&& BitVec.ofInt IntKind.i64.bits (255 : Int)).toNat : Nat) : Int)), a0.1, a0.2.1, (wr ((wr (a0.2.2 * (6364136223846793005 : Int))) + (1442695040888963407 : Int))), rfl, h⟩
 rintro s ⟨x2, x3, x4, x5, rfl, h⟩
 unfold F95_j0 at h
 refine nR K (tn 2) ?_
 replace h := Option.some.inj h
 subst h
 refine VW.ghl [.ren [2, 65536] [0]] (VW.ret ?_)
 exact ⟨[], by kernel_rfl, by kernel_rfl, by kernel_rfl⟩
def F52 (N : Nat) (a0 : Z84) (a1 : Int) : Option (Z84 × Int) :=
  cond (decide (a1 ≤ (0 : Int))) (some (a0, (0 : Int))) (cond (decide (a1 ≤ (256 : Int))) (andO (F95 N a0) fun y3 => gd (a1 ≠ 0) (some (y3.1, (Int.tmod y3.2 a1)))) (andO (F95 N a0) fun y5 => andO (F95 N y5.1) fun y6 => andO (F95 N y6.1) fun y7 => gd (a1 ≠ 0) (some (y7.1, (Int.tmod (IntKind.i64.wrap ((IntKind.i64.wrap ((IntKind.i64.wrap (y5.2 * (65536 : Int))) + (IntKind.i64.wrap (y6.2 * (256 : Int))))) + y7.2)) a1)))))
theorem ok52 N a0 a1 {r} (h : F52 N a0 a1 = some r) : ConM prog 52 [bx (lv Y84 a0) 85] [.lf (.ptr 0 0 0 0), I a1] [.lf (.v (.int .i64) r.2)] [bx (lv Y84 r.1) 85] := by
 refine ⟨enters_of func52 rfl (by decide), HM.intro [.lf (.v (.int .i64))] K func52 rfl (Nat.le_of_ble_eq_true rfl) (Nat.le_of_ble_eq_true rfl) fun w0 E0 ht => ?_⟩
 unfold F52 at h
 show VW _ _ _ _ _ (retM _ _ _ _ _) _
 refine nR K (tn 1) <| sq <| nR K (tn 2) ?_
 refine cnd h ?_ ?_<;>intro h
 ·refine nR K (tn 1) ?_
  replace h := Option.some.inj h
  subst h
  refine VW.ghl [.ren [4, 65536] [0]] (VW.ret ?_)
  exact ⟨[], by kernel_rfl, by kernel_rfl, by kernel_rfl⟩
 refine VW.skip <| sq <| nR K (tn 2) ?_
 refine cnd h ?_ ?_<;>intro h
 ·refine sq <| VW.region <| nG K 1 (tn 1) ?_
  obtain⟨y3,hy,h⟩:=aS h
  refine VO.callM [0] [.r] (d := some 13) (by kernel_rfl) (by kernel_rfl) (ok95 N _ hy) (by kernel_rfl) ?_
  obtain⟨g4,h⟩:=gS h
  refine nN K (pu 1 (an g4 (tn 1))) ?_
  replace h := Option.some.inj h
  subst h
  refine VW.ghl [.ren [4, 65536] [0]] (VW.ret ?_)
  exact ⟨[], by kernel_rfl, by kernel_rfl, by kernel_rfl⟩
 refine VW.skip <| sq <| VW.region <| nG K 1 (tn 1) ?_
 obtain⟨y5,hy,h⟩:=aS h
 refine VO.callM [0] [.r] (d := some 17) (by kernel_rfl) (by kernel_rfl) (ok95 N _ hy) (by kernel_rfl) <| nN K (tn 1) <| sq <| VW.region <| nG K 1 (tn 1) ?_
 obtain⟨y6,hy,h⟩:=aS h
 refine VO.callM [0] [.r] (d := some 19) (by kernel_rfl) (by kernel_rfl) (ok95 N _ hy) (by kernel_rfl) <| nN K (tn 1) <| sq <| VW.region <| nG K 1 (tn 1) ?_
 obtain⟨y7,hy,h⟩:=aS h
 refine VO.callM [0] [.r] (d := some 21) (by kernel_rfl) (by kernel_rfl) (ok95 N _ hy) (by kernel_rfl) <| nN K (tn 1) ?_
 obtain⟨g8,h⟩:=gS h
 refine nR K (pu 8 (an g8 (tn 1))) ?_
 replace h := Option.some.inj h
 subst h
 refine VW.ghl [.ren [4, 65536] [0]] (VW.ret ?_)
 exact ⟨[], by kernel_rfl, by kernel_rfl, by kernel_rfl⟩
def F34 (N : Nat) (a0 : Z84) (a1 : Int) : Option (Z84 × Bool) :=
  andO (F52 N a0 a1) fun y1 => some (y1.1, (y1.2 == (0 : Int)))
theorem ok34 N a0 a1 {r} (h : F34 N a0 a1 = some r) : ConM prog 34 [bx (lv Y84 a0) 85] [.lf (.ptr 0 0 0 0), I a1] [.lf (.v .bool r.2)] [bx (lv Y84 r.1) 85] := by
 refine ⟨enters_of func34 rfl (by decide), HM.intro [.lf (.v .bool)] K func34 rfl (Nat.le_of_ble_eq_true rfl) (Nat.le_of_ble_eq_true rfl) fun w0 E0 ht => ?_⟩
 unfold F34 at h
 show VW _ _ _ _ _ (retM _ _ _ _ _) _
 refine nR K (tn 1) <| sq <| VW.region <| nG K 2 (tn 2) ?_
 obtain⟨y1,hy,h⟩:=aS h
 refine VO.callM [0] [.r, .t (.int .i64)] (d := some 7) (by kernel_rfl) (by kernel_rfl) (ok52 N _ _ hy) (by kernel_rfl) <| nN K (tn 2) ?_
 replace h := Option.some.inj h
 subst h
 refine VW.ghl [.ren [4, 65536] [0]] (VW.ret ?_)
 exact ⟨[], by kernel_rfl, by kernel_rfl, by kernel_rfl⟩
def F99 (N : Nat) (a0 : Z84) (a1 : (List Int)) : Option (Z84 × Int) :=
  andO (F52 N a0 (a1.length : Int)) fun y1 => gd (InR y1.2 a1.length) (some (y1.1, (a1.getD y1.2.toNat (Ty.dflt (.int .i64)))))
theorem ok99 N a0 a1 {r} (h : F99 N a0 a1 = some r) : ConM prog 99 [bx (lv Y84 a0) 85] [.lf (.ptr 0 0 0 0), Vv (.sl (.int .i64)) a1] [.lf (.v (.int .i64) r.2)] [bx (lv Y84 r.1) 85] := by
 refine ⟨enters_of func99 rfl (by decide), HM.intro [.lf (.v (.int .i64))] K func99 rfl (Nat.le_of_ble_eq_true rfl) (Nat.le_of_ble_eq_true rfl) fun w0 E0 ht => ?_⟩
 unfold F99 at h
 show VW _ _ _ _ _ (retM _ _ _ _ _) _
 refine nR K (tn 1) <| sq <| VW.region <| nG K 4 (tn 4) ?_
 obtain⟨y1,hy,h⟩:=aS h
 refine VO.callM [0] [.r, .t (.int .i64)] (d := some 9) (by kernel_rfl) (by kernel_rfl) (ok52 N _ _ hy) (by kernel_rfl) ?_
 obtain⟨g2,h⟩:=gS h
 refine nN K (an g2 (tn 2)) ?_
 replace h := Option.some.inj h
 subst h
 refine VW.ghl [.ren [4, 65536] [0]] (VW.ret ?_)
 exact ⟨[], by kernel_rfl, by kernel_rfl, by kernel_rfl⟩
def F78_j0 (N : Nat) (x16 : (List Int)) : Option ((List Int)) :=
  some x16
def F78_l0_b (N : Nat) (a0 : (List Int)) (nx28 : (List Int) → Int → Option ((List Int))) (x22 : (List Int)) (x23 : Int) : Option ((List Int)) :=
  cond (decide (x23 < (a0.length : Int))) (gd (InR x23 a0.length) (gd (x22.length + ([(a0.getD x23.toNat (Ty.dflt (.int .i64)))]).length ≤ lim (.int .i64)) (nx28 (x22 ++ ([(a0.getD x23.toNat (Ty.dflt (.int .i64)))])) (IntKind.i64.wrap (x23 + (1 : Int)))))) (F78_j0 N x22)
def F78_l0 (N : Nat) (a0 : (List Int)) := loopF (F78_l0_b N a0) (fun _ _ => none)
theorem F78_l0_s N a0 {k} (hk : 0 < k) x22 x23 : F78_l0 N a0 k x22 x23 = F78_l0_b N a0 (F78_l0 N a0 (k - 1)) x22 x23 := by cases k;cases hk;rfl
def F78 (N : Nat) (a0 : (List Int)) : Option ((List Int)) :=
  F78_l0 N a0 N ([]) (0 : Int)
theorem ok78 N a0 {r} (h : F78 N a0 = some r) : Con prog 78 [Vv (.sl (.int .i64)) a0] [.lf (.own (.int .i64) r .dp)] := by
 refine ctr [.lf (.own (.int .i64) .dp)] K func78 rfl fun w0 E0 ht => ?_
 unfold F78 at h
 show VW _ _ _ _ _ (retQ _ _ _ _) _
 refine nR K (tn 1) <| nR K (tn 2) ?_
 refine VW.join (fun s => ∃ x16, s = ⟨[(3, hh 0)], [ar 0 (.int .i64) x16 .dp]⟩ ∧ F78_j0 N x16 = some r) ?_ ?_
 ·refine nR K (tn 1) <| VW.block <| lop (fun k s => ∃ x22 x23, s = ⟨[(0, Vv (.sl (.int .i64)) a0), (3, hh 0), (4, I x23)], [ar 0 (.int .i64) x22 .dp]⟩ ∧ F78_l0 N a0 k x22 x23 = some r) N [.nilS 3 (.int .i64) .dp, .ren [0, 3, 4] [0]] ⟨[], (0 : Int), rfl, h⟩ ?_
  rintro k28 s ⟨x22, x23, rfl, h⟩
  cases k28 with
  | zero => cases show none = some r from h
  | succ k28 =>
   replace h : F78_l0_b N a0 (F78_l0 N a0 k28) x22 x23 = some r := h
   unfold F78_l0_b at h
   refine sq <| nR K (tn 4) ?_
   refine cnd h ?_ ?_<;>intro h
   ·refine VW.skip <| sq <| VW.block ?_
    obtain⟨g31,h⟩:=gS h
    obtain⟨g32,h⟩:=gS h
    refine nE K (pu 3 (an g31 (pu 2 (an g32 (tn 1))))) <| nE K (tn 3) ?_
    exact aro [.ren [0, 3, 4] [0]] ⟨(x22 ++ ([(a0.getD x23.toNat (Ty.dflt (.int .i64)))])), (wr (x23 + (1 : Int))), rfl, h⟩
   refine VW.exit ?_
   exact arv [.ren [3] [0]] ⟨x22, rfl, h⟩
 rintro s ⟨x16, rfl, h⟩
 unfold F78_j0 at h
 refine nR K (tn 2) ?_
 cases h; exact VW.ret (rt [some 0])
def F38_j0 (N : Nat) (x100 : (List Z50)) : Option ((List Z50)) :=
  some x100
def F38_j1 (N : Nat) (nx168 : (List Z50) → Int → Option ((List Z50))) (x134 : (List Z50)) (x135 : Int) (x189 : Int) (x190 : ByteArray) (x191 : Int) (x192 : Int) (x193 : Int) (x194 : Bool) (x195 : (List Int)) : Option ((List Z50)) :=
  gd (x134.length + ([(x189, (x190, (x191, (x192, (x193, (x194, x195))))))]).length ≤ lim Y50) (nx168 (x134 ++ ([(x189, (x190, (x191, (x192, (x193, (x194, x195))))))])) (IntKind.i64.wrap (x135 + (1 : Int))))
def F38_l0_b (N : Nat) (a0 : (List Z50)) (nx168 : (List Z50) → Int → Option ((List Z50))) (x134 : (List Z50)) (x135 : Int) : Option ((List Z50)) :=
  cond (decide (x135 < (a0.length : Int))) (gd (InR x135 a0.length) (gd (InR x135 a0.length) (cond (decide ((((a0.getD x135.toNat (Ty.dflt Y50)).2.2.2.2.2.2).length : Int) > (0 : Int))) (gd (InR x135 a0.length) (andO (F78 N ((a0.getD x135.toNat (Ty.dflt Y50)).2.2.2.2.2.2)) fun y200 => F38_j1 N nx168 x134 x135 ((a0.getD x135.toNat (Ty.dflt Y50)).1) ((a0.getD x135.toNat (Ty.dflt Y50)).2.1) ((a0.getD x135.toNat (Ty.dflt Y50)).2.2.1) ((a0.getD x135.toNat (Ty.dflt Y50)).2.2.2.1) ((a0.getD x135.toNat (Ty.dflt Y50)).2.2.2.2.1) ((a0.getD x135.toNat (Ty.dflt Y50)).2.2.2.2.2.1) y200)) (F38_j1 N nx168 x134 x135 ((a0.getD x135.toNat (Ty.dflt Y50)).1) ((a0.getD x135.toNat (Ty.dflt Y50)).2.1) ((a0.getD x135.toNat (Ty.dflt Y50)).2.2.1) ((a0.getD x135.toNat (Ty.dflt Y50)).2.2.2.1) ((a0.getD x135.toNat (Ty.dflt Y50)).2.2.2.2.1) ((a0.getD x135.toNat (Ty.dflt Y50)).2.2.2.2.2.1) ([]))))) (F38_j0 N x134)
def F38_l0 (N : Nat) (a0 : (List Z50)) := loopF (F38_l0_b N a0) (fun _ _ => none)
theorem F38_l0_s N a0 {k} (hk : 0 < k) x134 x135 : F38_l0 N a0 k x134 x135 = F38_l0_b N a0 (F38_l0 N a0 (k - 1)) x134 x135 := by cases k;cases hk;rfl
def F38 (N : Nat) (a0 : (List Z50)) : Option ((List Z50)) :=
  F38_l0 N a0 N ([]) (0 : Int)
theorem ok38 N a0 {r} (h : F38 N a0 = some r) : Con prog 38 [Vv (.sl Y50) a0] [.lf (.own Y50 r .dp)] := by
 refine ctr [.lf (.own Y50 .dp)] K func38 rfl fun w0 E0 ht => ?_
 unfold F38 at h
 show VW _ _ _ _ _ (retQ _ _ _ _) _
 refine nR K (tn 1) <| nR K (tn 2) ?_
 refine VW.join (fun s => ∃ x100, s = ⟨[(3, hh 0)], [ar 0 Y50 x100 .dp]⟩ ∧ F38_j0 N x100 = some r) ?_ ?_
 ·refine nR K (tn 1) <| VW.block <| lop (fun k s => ∃ x134 x135, s = ⟨[(0, Vv (.sl Y50) a0), (3, hh 0), (4, I x135)], [ar 0 Y50 x134 .dp]⟩ ∧ F38_l0 N a0 k x134 x135 = some r) N [.nilS 3 Y50 .dp, .ren [0, 3, 4] [0]] ⟨[], (0 : Int), rfl, h⟩ ?_
  rintro k168 s ⟨x134, x135, rfl, h⟩
  cases k168 with
  | zero => cases show none = some r from h
  | succ k168 =>
   replace h : F38_l0_b N a0 (F38_l0 N a0 k168) x134 x135 = some r := h
   unfold F38_l0_b at h
   refine sq <| nR K (tn 4) ?_
   refine cnd h ?_ ?_<;>intro h
   ·refine VW.skip <| sq <| VW.block ?_
    obtain⟨g185,h⟩:=gS h
    refine nR K (pu 2 (an g185 (tn 3))) <| nR K (tn 2) ?_
    refine VW.join (fun s => ∃ x189 x190 x191 x192 x193 x194 x195, s = ⟨[(0, Vv (.sl Y50) a0), (3, hh 0), (4, I x135), (5, .lf (.ptr 1 0 0 0))], [ar 0 Y50 x134 .dp, bx [zi x189, zs x190, zi x191, zi x192, zi x193, zb x194, .hd 2 0 none] 51, ar 0 (.int .i64) x195 .dp]⟩ ∧ F38_j1 N (F38_l0 N a0 k168) x134 x135 x189 x190 x191 x192 x193 x194 x195 = some r) ?_ ?_
    ·obtain⟨g198,h⟩:=gS h
     refine nR K (pu 2 (an g198 (tn 4))) ?_
     refine cnd h ?_ ?_<;>intro h
     ·refine VW.region ?_
      obtain⟨g199,h⟩:=gS h
      refine nG K 5 (pu 2 (an g199 (tn 2))) ?_
      obtain⟨y200,hy,h⟩:=aS h
      refine clc false [.t (.sl (.int .i64))] [] (some 30) K (ok78 N _ hy) <| nN K (tn 2) ?_
      exact arv [.ren [0, 3, 4, 5] [0, 1, 2]] ⟨(a0.getD x135.toNat D50).1, (a0.getD x135.toNat D50).2.1, (a0.getD x135.toNat D50).2.2.1, (a0.getD x135.toNat D50).2.2.2.1, (a0.getD x135.toNat D50).2.2.2.2.1, (a0.getD x135.toNat D50).2.2.2.2.2.1, y200, rfl, h⟩
     refine VW.skip ?_
     exact arv [.nil 1 6 (.int .i64) .dp, .ren [0, 3, 4, 5] [0, 1, 2]] ⟨(a0.getD x135.toNat D50).1, (a0.getD x135.toNat D50).2.1, (a0.getD x135.toNat D50).2.2.1, (a0.getD x135.toNat D50).2.2.2.1, (a0.getD x135.toNat D50).2.2.2.2.1, (a0.getD x135.toNat D50).2.2.2.2.2.1, [], rfl, h⟩
    rintro s ⟨x189, x190, x191, x192, x193, x194, x195, rfl, h⟩
    unfold F38_j1 at h
    refine VW.region <| nG K 2 (tn 2) <| VO.litA (d := 34) (v := hh 3) (H' := [ar 0 Y50 x134 .dp, bx [zi x189, zs x190, zi x191, zi x192, zi x193, zb x194, .hd 2 0 none] 51, none, ar 0 Y50 ([(x189, (x190, (x191, (x192, (x193, (x194, x195))))))]) .dp]) K (by kernel_rfl) ?_
    obtain⟨g196,h⟩:=gS h
    refine VO.appM (d := 35) (φ := x134.length + ([(x189, (x190, (x191, (x192, (x193, (x194, x195))))))]).length ≤ lim Y50) (v := .lf (.hd 0 1 none)) (H' := [ar 1 Y50 (x134 ++ ([(x189, (x190, (x191, (x192, (x193, (x194, x195))))))])) .dp, bx [zi x189, zs x190, zi x191, zi x192, zi x193, zb x194, .hd 2 0 none] 51, none, none]) K (by kernel_rfl) g196 <| nN K (tn 1) <| nE K (tn 3) ?_
    exact aro [.ren [0, 3, 4] [0]] ⟨(x134 ++ ([(x189, (x190, (x191, (x192, (x193, (x194, x195))))))])), (wr (x135 + (1 : Int))), rfl, h⟩
   refine VW.exit ?_
   exact arv [.ren [3] [0]] ⟨x134, rfl, h⟩
 rintro s ⟨x100, rfl, h⟩
 unfold F38_j0 at h
 refine nR K (tn 2) ?_
 cases h; exact VW.ret (rt [some 0])
def F162_j0 (N : Nat) (x22 : (List Z50)) : Option ((List Z50)) :=
  some x22
def F162_l0_b (N : Nat) (a0 : (List (List Z50))) (nx38 : (List Z50) → Int → Option ((List Z50))) (x30 : (List Z50)) (x31 : Int) : Option ((List Z50)) :=
  cond (decide (x31 < (a0.length : Int))) (gd (InR x31 a0.length) (andO (F38 N (a0.getD x31.toNat (Ty.dflt (.sl Y50)))) fun y43 => gd (x30.length + y43.length ≤ lim Y50) (nx38 (x30 ++ y43) (IntKind.i64.wrap (x31 + (1 : Int)))))) (F162_j0 N x30)
def F162_l0 (N : Nat) (a0 : (List (List Z50))) := loopF (F162_l0_b N a0) (fun _ _ => none)
theorem F162_l0_s N a0 {k} (hk : 0 < k) x30 x31 : F162_l0 N a0 k x30 x31 = F162_l0_b N a0 (F162_l0 N a0 (k - 1)) x30 x31 := by cases k;cases hk;rfl
def F162 (N : Nat) (a0 : (List (List Z50))) : Option ((List Z50)) :=
  F162_l0 N a0 N ([]) (0 : Int)
theorem ok162 N a0 {r} (h : F162 N a0 = some r) : Con prog 162 [Vv (.sl (.sl Y50)) a0] [.lf (.own Y50 r .dp)] := by
 refine ctr [.lf (.own Y50 .dp)] K func162 rfl fun w0 E0 ht => ?_
 unfold F162 at h
 show VW _ _ _ _ _ (retQ _ _ _ _) _
 refine nR K (tn 1) <| nR K (tn 2) ?_
 refine VW.join (fun s => ∃ x22, s = ⟨[(3, hh 0)], [ar 0 Y50 x22 .dp]⟩ ∧ F162_j0 N x22 = some r) ?_ ?_
 ·refine nR K (tn 1) <| VW.block <| lop (fun k s => ∃ x30 x31, s = ⟨[(0, Vv (.sl (.sl Y50)) a0), (3, hh 0), (4, I x31)], [ar 0 Y50 x30 .dp]⟩ ∧ F162_l0 N a0 k x30 x31 = some r) N [.nilS 3 Y50 .dp, .ren [0, 3, 4] [0]] ⟨[], (0 : Int), rfl, h⟩ ?_
  rintro k38 s ⟨x30, x31, rfl, h⟩
  cases k38 with
  | zero => cases show none = some r from h
  | succ k38 =>
   replace h : F162_l0_b N a0 (F162_l0 N a0 k38) x30 x31 = some r := h
   unfold F162_l0_b at h
   refine sq <| nR K (tn 4) ?_
   refine cnd h ?_ ?_<;>intro h
   ·refine VW.skip <| sq <| VW.block <| VW.region ?_
    obtain⟨g42,h⟩:=gS h
    refine nG K 5 (pu 3 (an g42 (tn 1))) ?_
    obtain⟨y43,hy,h⟩:=aS h
    refine clc false [.t (.sl Y50)] [] (some 17) K (ok38 N _ hy) ?_
    obtain⟨g44,h⟩:=gS h
    refine VO.appY (d := 18) (φ := x30.length + y43.length ≤ lim Y50) (v := .lf (.hd 0 1 none)) (H' := [ar 1 Y50 (x30 ++ y43) .dp, none]) K (by kernel_rfl) g44 <| nN K (tn 1) <| nE K (tn 3) ?_
    exact aro [.ren [0, 3, 4] [0]] ⟨(x30 ++ y43), (wr (x31 + (1 : Int))), rfl, h⟩
   refine VW.exit ?_
   exact arv [.ren [3] [0]] ⟨x30, rfl, h⟩
 rintro s ⟨x22, rfl, h⟩
 unfold F162_j0 at h
 refine nR K (tn 2) ?_
 cases h; exact VW.ret (rt [some 0])
def F103_j0 (N : Nat) (x44 : (List Z50)) (x45 : Int) (x46 : (List Z50)) (x47 : (List Int)) (x48 : Int) (x49 : Int) : Option (Z84 × (List Z50) × Int) :=
  andO (F162 N ([([((4 : Int), (ByteArray.empty, ((0 : Int), ((0 : Int), ((0 : Int), (false, []))))))] : List Z50), x44, x46])) fun y50 => some ((x47, (x48, x49)), y50, x45)
def F103_j1 (N : Nat) (x5 : Int) (x120 : (List Z50)) (x121 : Int) (x122 : Int) (x123 : Int) (x124 : Int) (x125 : (List Int)) (x126 : (List Int)) (x127 : Int) (x128 : Int) : Option (Z84 × (List Z50) × Int) :=
  andO (F162 N ([[(x5, (ByteArray.empty, (x122, (x123, (x124, (false, x125))))))], x120])) fun y129 => some ((x126, (x127, x128)), y129, x121)
def F103_j2 (N : Nat) (x5 : Int) (x161 : (List Z50)) (x162 : (List Int)) (x163 : (List Int)) (x164 : Int) (x165 : Int) : Option (Z84 × (List Z50) × Int) :=
  F103_j1 N x5 x161 (x162.length : Int) (0 : Int) (0 : Int) (0 : Int) x162 x163 x164 x165
def F103_l0_b (N : Nat) (x5 : Int) (nx189 : (List Int) → Int → Int → (List Z50) → Int → (List Int) → Int → Option (Z84 × (List Z50) × Int)) (x178 : (List Int)) (x179 : Int) (x180 : Int) (x181 : (List Z50)) (x182 : Int) (x183 : (List Int)) (x184 : Int) : Option (Z84 × (List Z50) × Int) :=
  cond (decide (x184 > (0 : Int))) (andO (F52 N (x178, (x179, x180)) x182) fun y192 => gd (x183.length + ([y192.2]).length ≤ lim (.int .i64)) (nx189 y192.1.1 y192.1.2.1 y192.1.2.2 x181 x182 (x183 ++ ([y192.2])) (IntKind.i64.wrap (x184 - (1 : Int))))) (F103_j2 N x5 x181 x183 x178 x179 x180)
def F103_l0 (N : Nat) (x5 : Int) := loopF (F103_l0_b N x5) (fun _ _ _ _ _ _ _ => none)
theorem F103_l0_s N x5 {k} (hk : 0 < k) x178 x179 x180 x181 x182 x183 x184 : F103_l0 N x5 k x178 x179 x180 x181 x182 x183 x184 = F103_l0_b N x5 (F103_l0 N x5 (k - 1)) x178 x179 x180 x181 x182 x183 x184 := by cases k;cases hk;rfl
def F103_j3 (N : Nat) (a1 : Int) (self : Z84 → Int → Option (Z84 × (List Z50) × Int)) (x2 : (List Int)) (x3 : Int) (x4 : Int) (x5 : Int) : Option (Z84 × (List Z50) × Int) :=
  cond (x5 == (0 : Int)) (andO (F52 N (x2, (x3, x4)) (3 : Int)) fun y30 => gd (InR y30.2 ([(⟨#[116, 49]⟩ : ByteArray), (⟨#[116, 50]⟩ : ByteArray), (⟨#[116, 51]⟩ : ByteArray)]).length) (gd (y30.2.toNat < ([(⟨#[116, 49]⟩ : ByteArray), (⟨#[116, 50]⟩ : ByteArray), (⟨#[116, 51]⟩ : ByteArray)]).length) (gd (InR y30.2 ([(2 : Int), (3 : Int), (1 : Int)]).length) (gd (y30.2.toNat < ([(2 : Int), (3 : Int), (1 : Int)]).length) (some (y30.1, ([((0 : Int), ((([(⟨#[116, 49]⟩ : ByteArray), (⟨#[116, 50]⟩ : ByteArray), (⟨#[116, 51]⟩ : ByteArray)]).getD y30.2.toNat (Ty.dflt .str)), ((0 : Int), ((0 : Int), ((0 : Int), (false, []))))))] : List Z50), (([(2 : Int), (3 : Int), (1 : Int)]).getD y30.2.toNat (Ty.dflt (.int .i64))))))))) (cond (x5 == (3 : Int)) (andO (self (x2, (x3, x4)) (IntKind.i64.wrap (a1 - (1 : Int)))) fun y35 => andO (self y35.1 (IntKind.i64.wrap (a1 - (2 : Int)))) fun y36 => andO (F52 N y36.1 y35.2.2) fun y37 => andO (F52 N y37.1 y36.2.2) fun y38 => andO (F162 N ([([((3 : Int), (ByteArray.empty, (y37.2, ((0 : Int), (y38.2, (false, []))))))] : List Z50), y35.2.1, y36.2.1])) fun y39 => some (y38.1, y39, (IntKind.i64.wrap (y35.2.2 + y36.2.2)))) (cond (x5 == (4 : Int)) (andO (self (x2, (x3, x4)) (IntKind.i64.wrap (a1 - (1 : Int)))) fun y40 => andO (self y40.1 (IntKind.i64.wrap (a1 - (2 : Int)))) fun y41 => cond (y41.2.2 != y40.2.2) (andO (F162 N ([[((2 : Int), (ByteArray.empty, ((0 : Int), ((0 : Int), ((0 : Int), (false, [(0 : Int)]))))))], y40.2.1])) fun y52 => andO (F162 N ([[((2 : Int), (ByteArray.empty, ((0 : Int), ((0 : Int), ((0 : Int), (false, [(0 : Int)]))))))], y41.2.1])) fun y53 => F103_j0 N y52 (1 : Int) y53 y41.1.1 y41.1.2.1 y41.1.2.2) (F103_j0 N y40.2.1 y40.2.2 y41.2.1 y41.1.1 y41.1.2.1 y41.1.2.2)) (andO (self (x2, (x3, x4)) (IntKind.i64.wrap (a1 - (1 : Int)))) fun y54 => cond (x5 == (1 : Int)) (andO (F52 N y54.1 y54.2.2) fun y131 => andO (F52 N y131.1 (4 : Int)) fun y132 => cond (y132.2 != (3 : Int)) (andO (F52 N y132.1 (6 : Int)) fun y133 => F103_j1 N x5 y54.2.1 y54.2.2 y131.2 y132.2 (IntKind.i64.wrap (y133.2 - (1 : Int))) ([]) y133.1.1 y133.1.2.1 y133.1.2.2) (F103_j1 N x5 y54.2.1 y54.2.2 y131.2 y132.2 (0 : Int) ([]) y132.1.1 y132.1.2.1 y132.1.2.2)) (cond (x5 == (2 : Int)) (andO (F52 N y54.1 (3 : Int)) fun y167 => F103_l0 N x5 N y167.1.1 y167.1.2.1 y167.1.2.2 y54.2.1 y54.2.2 ([]) (IntKind.i64.wrap ((1 : Int) + y167.2))) (cond (x5 == (5 : Int)) (andO (F52 N y54.1 y54.2.2) fun y194 => F103_j1 N x5 y54.2.1 y54.2.2 y194.2 (0 : Int) (0 : Int) ([]) y194.1.1 y194.1.2.1 y194.1.2.2) (cond (x5 == (6 : Int)) (andO (F52 N y54.1 (6 : Int)) fun y195 => F103_j1 N x5 y54.2.1 y54.2.2 (0 : Int) (0 : Int) y195.2 ([]) y195.1.1 y195.1.2.1 y195.1.2.2) (F103_j1 N x5 y54.2.1 y54.2.2 (0 : Int) (0 : Int) (0 : Int) ([]) y54.1.1 y54.1.2.1 y54.1.2.2)))))))
def F103_b (N : Nat) (self : Z84 → Int → Option (Z84 × (List Z50) × Int)) (a0 : Z84) (a1 : Int) : Option (Z84 × (List Z50) × Int) :=
  andO (F99 N a0 ([(0 : Int), (1 : Int), (1 : Int), (1 : Int), (2 : Int), (3 : Int), (4 : Int), (5 : Int), (6 : Int), (7 : Int)])) fun y1 => cond (decide (a1 ≤ (1 : Int))) (F103_j3 N a1 self y1.1.1 y1.1.2.1 y1.1.2.2 (0 : Int)) (F103_j3 N a1 self y1.1.1 y1.1.2.1 y1.1.2.2 y1.2)
theorem ok103_b (N : Nat) (self : Z84 → Int → Option (Z84 × (List Z50) × Int)) (ih : ∀ (a0 : Z84) (a1 : Int) (r : Z84 × (List Z50) × Int), self a0 a1 = some r → ConM prog 103 [bx (lv Y84 a0) 85] [.lf (.ptr 0 0 0 0), I a1] [.lf (.own Y50 r.2.1 .dp), .lf (.v (.int .i64) r.2.2)] [bx (lv Y84 r.1) 85]) (a0 : Z84) (a1 : Int) {r : Z84 × (List Z50) × Int} (h : F103_b N self a0 a1 = some r) : ConM prog 103 [bx (lv Y84 a0) 85] [.lf (.ptr 0 0 0 0), I a1] [.lf (.own Y50 r.2.1 .dp), .lf (.v (.int .i64) r.2.2)] [bx (lv Y84 r.1) 85] := by
 refine ⟨enters_of func103 rfl (by decide), HM.intro [.lf (.own Y50 .dp), .lf (.v (.int .i64))] K func103 rfl (Nat.le_of_ble_eq_true rfl) (Nat.le_of_ble_eq_true rfl) fun w0 E0 ht => ?_⟩
 unfold F103_b at h
 show VW _ _ _ _ _ (retM _ _ _ _ _) _
 refine nR K (tn 2) <| sq <| VW.region <| nG K 2 (tn 2) ?_
 obtain⟨y1,hy,h⟩:=aS h
 refine VO.ghl [.frz 1] <| VO.callM [0] [.r, .t (.sl (.int .i64))] (d := some 25) (by kernel_rfl) (by kernel_rfl) (ok99 N _ _ hy) (by kernel_rfl) <| nN K (tn 1) ?_
 refine VW.join (fun s => ∃ x2 x3 x4 x5, s = ⟨[(0, .lf (.ptr 0 0 0 0)), (1, I a1), (6, I x5), (65536, .lf (.ptr 0 0 0 0))], [bx [.v (.sl (.int .u8)) x2, zi x3, zi x4] 85]⟩ ∧ F103_j3 N a1 self x2 x3 x4 x5 = some r) ?_ ?_
 ·refine nR K (tn 2) ?_
  refine cnd h ?_ ?_<;>intro h
  ·refine nE K (tn 1) ?_
   exact arv [.ren [0, 1, 6, 65536] [0]] ⟨y1.1.1, y1.1.2.1, y1.1.2.2, (0 : Int), rfl, h⟩
  refine VW.skip ?_
  exact arv [.ren [0, 1, 6, 65536] [0]] ⟨y1.1.1, y1.1.2.1, y1.1.2.2, y1.2, rfl, h⟩
 rintro s ⟨x2, x3, x4, x5, rfl, h⟩
 unfold F103_j3 at h
 refine sq <| nR K (tn 1) <| VW.block <| nR K (tn 2) ?_
 refine cnd h ?_ ?_<;>intro h
 ·refine sq <| VW.region <| nG K 1 (tn 1) ?_
  obtain⟨y30,hy,h⟩:=aS h
  refine VO.callM [0] [.r, .t (.int .i64)] (d := some 32) (by kernel_rfl) (by kernel_rfl) (ok52 N _ _ hy) (by kernel_rfl) <| nN K (tn 1) <| nR K (tn 2) <| nR K (tn 2) <| sq <| VW.ghl [.ren [7, 8, 9, 65536] [1, 2, 0]] ?_
  obtain⟨g31,h⟩:=gS h
  obtain⟨g32,h⟩:=gS h
  obtain⟨g33,h⟩:=gS h
  obtain⟨g34,h⟩:=gS h
  refine VW.drawn (by kernel_rfl) [some (35, hh 0), some (36, I y30.2), some (37, .lf (.ptr 0 0 y30.2.toNat 0)), some (38, S (([(⟨#[116, 49]⟩ : ByteArray), (⟨#[116, 50]⟩ : ByteArray), (⟨#[116, 51]⟩ : ByteArray)]).getD y30.2.toNat (Ty.dflt .str))), some (39, .agg [zi (0 : Int), zs (([(⟨#[116, 49]⟩ : ByteArray), (⟨#[116, 50]⟩ : ByteArray), (⟨#[116, 51]⟩ : ByteArray)]).getD y30.2.toNat (Ty.dflt .str)), zi (0 : Int), zi (0 : Int), zi (0 : Int), zb false, .nil]), some (40, hh 3), some (41, hh 1), some (42, I y30.2), some (43, .lf (.ptr 1 0 y30.2.toNat 0)), some (44, I (([(2 : Int), (3 : Int), (1 : Int)]).getD y30.2.toNat (Ty.dflt (.int .i64)))), some (4, hh 3), some (5, I (([(2 : Int), (3 : Int), (1 : Int)]).getD y30.2.toNat (Ty.dflt (.int .i64))))] [5] [[ar 0 .str ([(⟨#[116, 49]⟩ : ByteArray), (⟨#[116, 50]⟩ : ByteArray), (⟨#[116, 51]⟩ : ByteArray)]) .dp, ar 0 (.int .i64) ([(2 : Int), (3 : Int), (1 : Int)]) .dp, bx (lv Y84 y30.1) 85], [ar 0 .str ([(⟨#[116, 49]⟩ : ByteArray), (⟨#[116, 50]⟩ : ByteArray), (⟨#[116, 51]⟩ : ByteArray)]) .dp, ar 0 (.int .i64) ([(2 : Int), (3 : Int), (1 : Int)]) .dp, bx (lv Y84 y30.1) 85, ar 0 Y50 ([((0 : Int), ((([(⟨#[116, 49]⟩ : ByteArray), (⟨#[116, 50]⟩ : ByteArray), (⟨#[116, 51]⟩ : ByteArray)]).getD y30.2.toNat (Ty.dflt .str)), ((0 : Int), ((0 : Int), ((0 : Int), (false, []))))))] : List Z50) .dp]] [(0, 0), (0, 1), (1, 0), (1, 1), (2, 0), (2, 1), (3, 0), (3, 1), (4, 0), (5, 0), (6, 0), (6, 1), (7, 0), (7, 1), (8, 0), (8, 1), (9, 0), (9, 1), (10, 1), (11, 1)] [4, 5, 65536] [3, 2] (s' := ⟨[(4, hh 0), (5, I (([(2 : Int), (3 : Int), (1 : Int)]).getD y30.2.toNat (Ty.dflt (.int .i64)))), (65536, .lf (.ptr 1 0 0 0))], [ar 0 Y50 ([((0 : Int), ((([(⟨#[116, 49]⟩ : ByteArray), (⟨#[116, 50]⟩ : ByteArray), (⟨#[116, 51]⟩ : ByteArray)]).getD y30.2.toNat (Ty.dflt .str)), ((0 : Int), ((0 : Int), ((0 : Int), (false, []))))))] : List Z50) .dp, bx (lv Y84 y30.1) 85]⟩) (by kernel_rfl) (by kernel_rfl) ⟨qT K,
    qT K,
    qT K,
    qT K,
    ⟨_, rfl, Stp.ev K (m := .dp) (φ := InR y30.2 ([(⟨#[116, 49]⟩ : ByteArray), (⟨#[116, 50]⟩ : ByteArray), (⟨#[116, 51]⟩ : ByteArray)]).length) (by kernel_rfl) g31⟩,
    ⟨_, rfl, Stp.ev K (m := .dp) (φ := InR y30.2 ([(⟨#[116, 49]⟩ : ByteArray), (⟨#[116, 50]⟩ : ByteArray), (⟨#[116, 51]⟩ : ByteArray)]).length) (by kernel_rfl) g31⟩,
    ⟨_, rfl, Stp.ev K (m := .dp) (φ := y30.2.toNat < ([(⟨#[116, 49]⟩ : ByteArray), (⟨#[116, 50]⟩ : ByteArray), (⟨#[116, 51]⟩ : ByteArray)]).length) (by kernel_rfl) g32⟩,
    ⟨_, rfl, Stp.ev K (m := .dp) (φ := y30.2.toNat < ([(⟨#[116, 49]⟩ : ByteArray), (⟨#[116, 50]⟩ : ByteArray), (⟨#[116, 51]⟩ : ByteArray)]).length) (by kernel_rfl) g32⟩,
    qT K,
    ⟨_, rfl, Stp.litA K (by kernel_rfl)⟩,
    qT K,
    qT K,
    qT K,
    qT K,
    ⟨_, rfl, Stp.ev K (m := .dp) (φ := InR y30.2 ([(2 : Int), (3 : Int), (1 : Int)]).length) (by kernel_rfl) g33⟩,
    ⟨_, rfl, Stp.ev K (m := .dp) (φ := InR y30.2 ([(2 : Int), (3 : Int), (1 : Int)]).length) (by kernel_rfl) g33⟩,
    ⟨_, rfl, Stp.ev K (m := .dp) (φ := y30.2.toNat < ([(2 : Int), (3 : Int), (1 : Int)]).length) (by kernel_rfl) g34⟩,
    ⟨_, rfl, Stp.ev K (m := .dp) (φ := y30.2.toNat < ([(2 : Int), (3 : Int), (1 : Int)]).length) (by kernel_rfl) g34⟩,
    qT K,
    qT K, trivial⟩ (by kernel_rfl) ?_
  replace h := Option.some.inj h
  subst h
  refine VW.ghl [.ren [4, 5, 65536] [1, 0]] (VW.ret ?_)
  exact ⟨[some 1], by kernel_rfl, by kernel_rfl, by kernel_rfl⟩
 refine nR K (tn 2) ?_
 refine cnd h ?_ ?_<;>intro h
 ·refine sq <| VW.region <| nG K 3 (tn 3) ?_
  obtain⟨y35,hy,h⟩:=aS h
  refine VO.callM [0] [.r, .t (.int .i64)] (d := some 51) (by kernel_rfl) (by kernel_rfl) (ih _ _ _ hy) (by kernel_rfl) <| nN K (tn 5) <| sq <| VW.region <| nG K 3 (tn 3) ?_
  obtain⟨y36,hy,h⟩:=aS h
  refine VO.callM [0] [.r, .t (.int .i64)] (d := some 58) (by kernel_rfl) (by kernel_rfl) (ih _ _ _ hy) (by kernel_rfl) <| nN K (tn 5) <| sq <| VW.region <| nG K 2 (tn 2) ?_
  obtain⟨y37,hy,h⟩:=aS h
  refine VO.callM [0] [.r, .t (.int .i64)] (d := some 63) (by kernel_rfl) (by kernel_rfl) (ok52 N _ _ hy) (by kernel_rfl) <| nG K 2 (tn 2) ?_
  obtain⟨y38,hy,h⟩:=aS h
  refine VO.callM [0] [.r, .t (.int .i64)] (d := some 66) (by kernel_rfl) (by kernel_rfl) (ok52 N _ _ hy) (by kernel_rfl) <| nN K (tn 3) <| sq <| VW.region <| nG K 1 (tn 1) <| VO.litA (d := 69) (v := hh 4) (H' := [bx (lv Y84 y38.1) 85, ar 0 Y50 y35.2.1 .dp, ar 0 Y50 y36.2.1 .dp, bx [zi (3 : Int), zs ByteArray.empty, zi y37.2, zi (0 : Int), zi y38.2, zb false, .nil] 51, ar 0 Y50 ([((3 : Int), (ByteArray.empty, (y37.2, ((0 : Int), (y38.2, (false, []))))))] : List Z50) .dp]) K (by kernel_rfl) ?_
  refine nG K 2 (tn 2) <| VO.ghl [.frz 4, .frz 1, .frz 2] <| nG K 1 (tn 1) ?_
  obtain⟨y39,hy,h⟩:=aS h
  refine clc true [.t (.sl (.sl Y50))] [] (some 73) K (ok162 N _ hy) <| nN K (tn 5) ?_
  replace h := Option.some.inj h
  subst h
  refine VW.ghl [.ren [4, 5, 65536] [0, 6]] (VW.ret ?_)
  exact ⟨[some 1], by kernel_rfl, by kernel_rfl, by kernel_rfl⟩
 refine nR K (tn 2) ?_
 refine cnd h ?_ ?_<;>intro h
 ·refine sq <| VW.region <| nG K 3 (tn 3) ?_
  obtain⟨y40,hy,h⟩:=aS h
  refine VO.callM [0] [.r, .t (.int .i64)] (d := some 83) (by kernel_rfl) (by kernel_rfl) (ih _ _ _ hy) (by kernel_rfl) <| nN K (tn 5) <| sq <| VW.region <| nG K 3 (tn 3) ?_
  obtain⟨y41,hy,h⟩:=aS h
  refine VO.callM [0] [.r, .t (.int .i64)] (d := some 90) (by kernel_rfl) (by kernel_rfl) (ih _ _ _ hy) (by kernel_rfl) <| nN K (tn 5) ?_
  refine VW.join (fun s => ∃ x44 x45 x46 x47 x48 x49, s = ⟨[(15, hh 0), (16, I x45), (17, hh 1), (65536, .lf (.ptr 2 0 0 0))], [ar 0 Y50 x44 .dp, ar 0 Y50 x46 .dp, bx [.v (.sl (.int .u8)) x47, zi x48, zi x49] 85]⟩ ∧ F103_j0 N x44 x45 x46 x47 x48 x49 = some r) ?_ ?_
  ·refine nR K (tn 3) ?_
   refine cnd h ?_ ?_<;>intro h
   ·refine sq <| VW.region <| nG K 2 (tn 2) <| VO.litA (d := 98) (v := hh 4) (H' := [bx (lv Y84 y41.1) 85, ar 0 Y50 y40.2.1 .dp, ar 0 Y50 y41.2.1 .dp, none, ar 0 Y50 ([((2 : Int), (ByteArray.empty, ((0 : Int), ((0 : Int), ((0 : Int), (false, [(0 : Int)]))))))]) .dp]) K (by kernel_rfl) <| nG K 1 (tn 1) <| VO.ghl [.frz 4, .frz 1] <| nG K 1 (tn 1) ?_
    obtain⟨y52,hy,h⟩:=aS h
    refine clc true [.t (.sl (.sl Y50))] [] (some 101) K (ok162 N _ hy) <| nN K (tn 1) <| sq <| VW.region <| nG K 2 (tn 2) <| VO.litA (d := 104) (v := hh 8) (H' := [bx (lv Y84 y41.1) 85, none, ar 0 Y50 y41.2.1 .dp, none, none, ar 0 (.sl Y50) ([[((2 : Int), (ByteArray.empty, ((0 : Int), ((0 : Int), ((0 : Int), (false, [(0 : Int)]))))))], y40.2.1]) .tp, ar 0 Y50 y52 .dp, none, ar 0 Y50 ([((2 : Int), (ByteArray.empty, ((0 : Int), ((0 : Int), ((0 : Int), (false, [(0 : Int)]))))))]) .dp]) K (by kernel_rfl) ?_
    refine nG K 1 (tn 1) <| VO.ghl [.frz 8, .frz 2] <| nG K 1 (tn 1) ?_
    obtain⟨y53,hy,h⟩:=aS h
    refine clc true [.t (.sl (.sl Y50))] [] (some 107) K (ok162 N _ hy) <| nN K (tn 1) <| nE K (tn 1) ?_
    exact arv [.ren [15, 16, 17, 65536] [6, 10, 0]] ⟨y52, (1 : Int), y53, y41.1.1, y41.1.2.1, y41.1.2.2, rfl, h⟩
   refine VW.skip ?_
   exact arv [.ren [15, 16, 17, 65536] [1, 2, 0]] ⟨y40.2.1, y40.2.2, y41.2.1, y41.1.1, y41.1.2.1, y41.1.2.2, rfl, h⟩
  rintro s ⟨x44, x45, x46, x47, x48, x49, rfl, h⟩
  unfold F103_j0 at h
  refine sq <| VW.region <| nG K 1 (tn 1) <| VO.litA (d := 109) (v := hh 3) (H' := [ar 0 Y50 x44 .dp, ar 0 Y50 x46 .dp, bx [.v (.sl (.int .u8)) x47, zi x48, zi x49] 85, ar 0 Y50 ([((4 : Int), (ByteArray.empty, ((0 : Int), ((0 : Int), ((0 : Int), (false, []))))))] : List Z50) .dp]) K (by kernel_rfl) <| nG K 2 (tn 2) <| VO.ghl [.frz 3, .frz 0, .frz 1] <| nG K 1 (tn 1) ?_
  obtain⟨y50,hy,h⟩:=aS h
  refine clc true [.t (.sl (.sl Y50))] [] (some 113) K (ok162 N _ hy) <| nN K (tn 3) ?_
  replace h := Option.some.inj h
  subst h
  refine VW.ghl [.ren [4, 5, 65536] [2, 5]] (VW.ret ?_)
  exact ⟨[some 1], by kernel_rfl, by kernel_rfl, by kernel_rfl⟩
 refine VW.skip <| sq <| VW.region <| nG K 3 (tn 3) ?_
 obtain⟨y54,hy,h⟩:=aS h
 refine VO.callM [0] [.r, .t (.int .i64)] (d := some 119) (by kernel_rfl) (by kernel_rfl) (ih _ _ _ hy) (by kernel_rfl) <| nN K (tn 5) <| nR K (tn 4) ?_
 refine VW.join (fun s => ∃ x120 x121 x122 x123 x124 x125 x126 x127 x128, s = ⟨[(19, hh 0), (20, I x121), (21, .lf (.ptr 1 0 0 0)), (65536, .lf (.ptr 3 0 0 0))], [ar 0 Y50 x120 .dp, bx [zi x5, zs ByteArray.empty, zi x122, zi x123, zi x124, zb false, .hd 2 0 none] 51, ar 0 (.int .i64) x125 .dp, bx [.v (.sl (.int .u8)) x126, zi x127, zi x128] 85]⟩ ∧ F103_j1 N x5 x120 x121 x122 x123 x124 x125 x126 x127 x128 = some r) ?_ ?_
 ·refine nR K (tn 1) <| VW.block <| nR K (tn 2) ?_
  refine cnd h ?_ ?_<;>intro h
  ·refine sq <| VW.region <| nG K 2 (tn 2) ?_
   obtain⟨y131,hy,h⟩:=aS h
   refine VO.callM [0] [.r, .t (.int .i64)] (d := some 129) (by kernel_rfl) (by kernel_rfl) (ok52 N _ _ hy) (by kernel_rfl) <| nN K (tn 2) <| sq <| VW.region <| nG K 1 (tn 1) ?_
   obtain⟨y132,hy,h⟩:=aS h
   refine VO.callM [0] [.r, .t (.int .i64)] (d := some 132) (by kernel_rfl) (by kernel_rfl) (ok52 N _ _ hy) (by kernel_rfl) <| sN K [0, 19, 20, 21, 65536] [0, 1, 2] ⟨[(0, .lf (.ptr 0 0 0 0)), (19, hh 1), (20, I y54.2.2), (21, .lf (.ptr 2 0 0 0)), (65536, .lf (.ptr 0 0 0 0))], [bx (lv Y84 y132.1) 85, ar 0 Y50 y54.2.1 .dp, bx [zi x5, zs ByteArray.empty, zi y131.2, zi y132.2, zi (0 : Int), zb false, .nil] 51]⟩ (tn 2) ?_
   refine nR K (tn 3) ?_
   refine cnd h ?_ ?_<;>intro h
   ·refine VW.region <| nG K 1 (tn 1) ?_
    obtain⟨y133,hy,h⟩:=aS h
    refine VO.callM [0] [.r, .t (.int .i64)] (d := some 138) (by kernel_rfl) (by kernel_rfl) (ok52 N _ _ hy) (by kernel_rfl) <| nN K (tn 3) ?_
    exact arv [.nil 2 6 (.int .i64) .dp, .ren [19, 20, 21, 65536] [1, 2, 3, 0]] ⟨y54.2.1, y54.2.2, y131.2, y132.2, (wr (y133.2 - (1 : Int))), [], y133.1.1, y133.1.2.1, y133.1.2.2, rfl, h⟩
   refine VW.skip ?_
   exact arv [.nil 2 6 (.int .i64) .dp, .ren [19, 20, 21, 65536] [1, 2, 3, 0]] ⟨y54.2.1, y54.2.2, y131.2, y132.2, (0 : Int), [], y132.1.1, y132.1.2.1, y132.1.2.2, rfl, h⟩
  refine nR K (tn 2) ?_
  refine cnd h ?_ ?_<;>intro h
  ·refine VW.join (fun s => ∃ x161 x162 x163 x164 x165, s = ⟨[(19, hh 0), (21, .lf (.ptr 1 0 0 0)), (65536, .lf (.ptr 3 0 0 0))], [ar 0 Y50 x161 .dp, bx [zi x5, zs ByteArray.empty, zi (0 : Int), zi (0 : Int), zi (0 : Int), zb false, .hd 2 0 none] 51, ar 0 (.int .i64) x162 .dp, bx [.v (.sl (.int .u8)) x163, zi x164, zi x165] 85]⟩ ∧ F103_j2 N x5 x161 x162 x163 x164 x165 = some r) ?_ ?_
   ·refine sq <| VW.region <| nG K 1 (tn 1) ?_
    obtain⟨y167,hy,h⟩:=aS h
    refine VO.callM [0] [.r, .t (.int .i64)] (d := some 144) (by kernel_rfl) (by kernel_rfl) (ok52 N _ _ hy) (by kernel_rfl) <| nN K (tn 2) <| VW.block <| lop (fun k s => ∃ x178 x179 x180 x181 x182 x183 x184, s = ⟨[(0, .lf (.ptr 0 0 0 0)), (19, hh 1), (20, I x182), (21, .lf (.ptr 2 0 0 0)), (22, I x184), (65536, .lf (.ptr 0 0 0 0))], [bx [.v (.sl (.int .u8)) x178, zi x179, zi x180] 85, ar 0 Y50 x181 .dp, bx [zi x5, zs ByteArray.empty, zi (0 : Int), zi (0 : Int), zi (0 : Int), zb false, .hd 3 0 none] 51, ar 0 (.int .i64) x183 .dp]⟩ ∧ F103_l0 N x5 k x178 x179 x180 x181 x182 x183 x184 = some r) N [.nil 2 6 (.int .i64) .dp, .ren [0, 19, 20, 21, 22, 65536] [0, 1, 2, 3]] ⟨y167.1.1, y167.1.2.1, y167.1.2.2, y54.2.1, y54.2.2, [], (wr ((1 : Int) + y167.2)), rfl, h⟩ ?_
    rintro k189 s ⟨x178, x179, x180, x181, x182, x183, x184, rfl, h⟩
    cases k189 with
    | zero => cases show none = some r from h
    | succ k189 =>
     replace h : F103_l0_b N x5 (F103_l0 N x5 k189) x178 x179 x180 x181 x182 x183 x184 = some r := h
     unfold F103_l0_b at h
     refine sq <| nR K (tn 2) ?_
     refine cnd h ?_ ?_<;>intro h
     ·refine VW.skip <| sq <| VW.block <| VW.ghl [.ren [0, 19, 20, 21, 22, 65536] [0, 1, 2, 3]] ?_
      obtain⟨y192,hy192,h⟩:=aS h
      obtain⟨g193,h⟩:=gS h
      refine VW.drawn (by kernel_rfl) [some (150, .lf (.ptr 2 0 0 6)), some (151, hh 3), some (152, .lf (.ptr 0 0 0 0)), some (153, I x182), some (154, I y192.2), some (155, hh 4), some (156, .lf (.hd 3 1 none)), some (157, .lf (.ptr 2 0 0 6)), none] [4, 5, 6, 8] [[bx [.v (.sl (.int .u8)) x178, zi x179, zi x180] 85, ar 0 Y50 x181 .dp, bx [zi x5, zs ByteArray.empty, zi (0 : Int), zi (0 : Int), zi (0 : Int), zb false, .hd 3 0 none] 51, ar 0 (.int .i64) x183 .dp], [bx (lv Y84 y192.1) 85, ar 0 Y50 x181 .dp, bx [zi x5, zs ByteArray.empty, zi (0 : Int), zi (0 : Int), zi (0 : Int), zb false, .hd 3 0 none] 51, ar 0 (.int .i64) x183 .dp], [bx (lv Y84 y192.1) 85, ar 0 Y50 x181 .dp, bx [zi x5, zs ByteArray.empty, zi (0 : Int), zi (0 : Int), zi (0 : Int), zb false, .hd 3 0 none] 51, ar 0 (.int .i64) x183 .dp, ar 0 (.int .i64) ([y192.2]) .dp], [bx (lv Y84 y192.1) 85, ar 0 Y50 x181 .dp, bx [zi x5, zs ByteArray.empty, zi (0 : Int), zi (0 : Int), zi (0 : Int), zb false, .hd 3 0 none] 51, ar 1 (.int .i64) (x183 ++ ([y192.2])) .dp, ar 0 (.int .i64) ([y192.2]) .dp], [bx (lv Y84 y192.1) 85, ar 0 Y50 x181 .dp, bx [zi x5, zs ByteArray.empty, zi (0 : Int), zi (0 : Int), zi (0 : Int), zb false, .hd 3 1 none] 51, ar 1 (.int .i64) (x183 ++ ([y192.2])) .dp, ar 0 (.int .i64) ([y192.2]) .dp]] [(0, 0), (0, 1), (0, 2), (0, 3), (1, 0), (1, 1), (1, 2), (2, 0), (3, 0), (4, 0), (5, 1), (6, 2), (7, 3), (8, 3)] [0, 19, 20, 21, 22, 65536] [0, 1, 2, 3] (s' := ⟨[(0, .lf (.ptr 0 0 0 0)), (19, hh 1), (20, I x182), (21, .lf (.ptr 2 0 0 0)), (22, I x184), (65536, .lf (.ptr 0 0 0 0))], [bx (lv Y84 y192.1) 85, ar 0 Y50 x181 .dp, bx [zi x5, zs ByteArray.empty, zi (0 : Int), zi (0 : Int), zi (0 : Int), zb false, .hd 3 0 none] 51, ar 0 (.int .i64) (x183 ++ ([y192.2])) .dp]⟩) (by kernel_rfl) (by kernel_rfl) ⟨qT K,
    qT K,
    qT K,
    qT K,
    qT K,
    qT K,
    qT K,
    qT K,
    qT K,
    ⟨_, rfl, Stp.eq (Stp.callM [0] [.r, .t (.int .i64)] (d := some 154) (by kernel_rfl) (by kernel_rfl) (ok52 N _ _ hy192) (by kernel_rfl)) (by kernel_rfl) (by kernel_rfl)⟩,
    qT K,
    ⟨_, rfl, Stp.ev K (m := .dp) (φ := x183.length + ([y192.2]).length ≤ lim (.int .i64)) (by kernel_rfl) g193⟩,
    qT K,
    qT K, trivial⟩ (by kernel_rfl) ?_
      refine nE K (tn 3) ?_
      exact aro [.ren [0, 19, 20, 21, 22, 65536] [0, 1, 2, 3]] ⟨y192.1.1, y192.1.2.1, y192.1.2.2, x181, x182, (x183 ++ ([y192.2])), (wr (x184 - (1 : Int))), rfl, h⟩
     refine VW.exit ?_
     exact arv [.ren [19, 21, 65536] [1, 2, 3, 0]] ⟨x181, x183, x178, x179, x180, rfl, h⟩
   rintro s ⟨x161, x162, x163, x164, x165, rfl, h⟩
   unfold F103_j2 at h
   refine nE K (tn 4) ?_
   exact arv [.ren [19, 20, 21, 65536] [0, 1, 2, 3]] ⟨x161, (x162.length : Int), (0 : Int), (0 : Int), (0 : Int), x162, x163, x164, x165, rfl, h⟩
  refine nR K (tn 2) ?_
  refine cnd h ?_ ?_<;>intro h
  ·refine VW.region <| nG K 2 (tn 2) ?_
   obtain⟨y194,hy,h⟩:=aS h
   refine VO.callM [0] [.r, .t (.int .i64)] (d := some 165) (by kernel_rfl) (by kernel_rfl) (ok52 N _ _ hy) (by kernel_rfl) <| sN K [19, 20, 21, 65536] [1, 2, 0] ⟨[(19, hh 0), (20, I y54.2.2), (21, .lf (.ptr 1 0 0 0)), (65536, .lf (.ptr 2 0 0 0))], [ar 0 Y50 y54.2.1 .dp, bx [zi x5, zs ByteArray.empty, zi y194.2, zi (0 : Int), zi (0 : Int), zb false, .nil] 51, bx (lv Y84 y194.1) 85]⟩ (tn 2) ?_
   exact arv [.nil 1 6 (.int .i64) .dp, .ren [19, 20, 21, 65536] [0, 1, 3, 2]] ⟨y54.2.1, y54.2.2, y194.2, (0 : Int), (0 : Int), [], y194.1.1, y194.1.2.1, y194.1.2.2, rfl, h⟩
  refine nR K (tn 2) ?_
  refine cnd h ?_ ?_<;>intro h
  ·refine VW.region <| sG K 1 [19, 20, 21, 169, 65536] [1, 2, 0] ⟨[(19, hh 0), (20, I y54.2.2), (21, .lf (.ptr 1 0 0 0)), (169, .lf (.ptr 2 0 0 0)), (65536, .lf (.ptr 2 0 0 0))], [ar 0 Y50 y54.2.1 .dp, bx [zi x5, zs ByteArray.empty, zi (0 : Int), zi (0 : Int), zi (0 : Int), zb false, .nil] 51, bx (lv Y84 y54.1) 85]⟩ (tn 1) ?_
   obtain⟨y195,hy,h⟩:=aS h
   refine VO.callM [2] [.r, .t (.int .i64)] (d := some 170) (by kernel_rfl) (by kernel_rfl) (ok52 N _ _ hy) (by kernel_rfl) <| nN K (tn 2) ?_
   exact arv [.nil 1 6 (.int .i64) .dp, .ren [19, 20, 21, 65536] [0, 1, 3, 2]] ⟨y54.2.1, y54.2.2, (0 : Int), (0 : Int), y195.2, [], y195.1.1, y195.1.2.1, y195.1.2.2, rfl, h⟩
  refine VW.skip ?_
  exact arv [.nil 2 6 (.int .i64) .dp, .ren [19, 20, 21, 65536] [1, 2, 3, 0]] ⟨y54.2.1, y54.2.2, (0 : Int), (0 : Int), (0 : Int), [], y54.1.1, y54.1.2.1, y54.1.2.2, rfl, h⟩
 rintro s ⟨x120, x121, x122, x123, x124, x125, x126, x127, x128, rfl, h⟩
 unfold F103_j1 at h
 refine sq <| VW.region <| nG K 1 (tn 1) <| VO.litA (d := 173) (v := hh 4) (H' := [ar 0 Y50 x120 .dp, bx [zi x5, zs ByteArray.empty, zi x122, zi x123, zi x124, zb false, .hd 2 0 none] 51, none, bx [.v (.sl (.int .u8)) x126, zi x127, zi x128] 85, ar 0 Y50 ([(x5, (ByteArray.empty, (x122, (x123, (x124, (false, x125))))))]) .dp]) K (by kernel_rfl) <| nG K 1 (tn 1) <| VO.ghl [.frz 4, .frz 0] <| nG K 1 (tn 1) ?_
 obtain⟨y129,hy,h⟩:=aS h
 refine clc true [.t (.sl (.sl Y50))] [] (some 176) K (ok162 N _ hy) <| nN K (tn 3) ?_
 replace h := Option.some.inj h
 subst h
 refine VW.ghl [.ren [4, 5, 65536] [3, 6]] (VW.ret ?_)
 exact ⟨[some 1], by kernel_rfl, by kernel_rfl, by kernel_rfl⟩
def F103_r (N : Nat) := loopF (F103_b N) (fun _ _ => none)
theorem F103_s N {k} (hk : 0 < k) a0 a1 : F103_r N k a0 a1 = F103_b N (F103_r N (k - 1)) a0 a1 := by cases k;cases hk;rfl
def F103 (N : Nat) : Z84 → Int → Option (Z84 × (List Z50) × Int) := F103_r N N
theorem ok103_k (N : Nat) : ∀ (k : Nat) (a0 : Z84) (a1 : Int) (r : Z84 × (List Z50) × Int), loopF (F103_b N) (fun _ _ => none) k a0 a1 = some r → ConM prog 103 [bx (lv Y84 a0) 85] [.lf (.ptr 0 0 0 0), I a1] [.lf (.own Y50 r.2.1 .dp), .lf (.v (.int .i64) r.2.2)] [bx (lv Y84 r.1) 85]
 | 0, a0, a1, r, h => nomatch (show (none : Option (Z84 × (List Z50) × Int)) = some r from h)
 | k + 1, a0, a1, r, h => ok103_b N _ (ok103_k N k) a0 a1 h
theorem ok103 N a0 a1 {r} (h : F103 N a0 a1 = some r) : ConM prog 103 [bx (lv Y84 a0) 85] [.lf (.ptr 0 0 0 0), I a1] [.lf (.own Y50 r.2.1 .dp), .lf (.v (.int .i64) r.2.2)] [bx (lv Y84 r.1) 85] := ok103_k N N a0 a1 r h
def F104 (N : Nat) (a0 : (List Int)) (a1 : Int) : Option (Int) :=
  cond (decide ((IntKind.i64.wrap ((2 : Int) + (IntKind.i64.wrap (Int.tdiv (a0.length : Int) (16 : Int))))) > a1)) (some a1) (some (IntKind.i64.wrap ((2 : Int) + (IntKind.i64.wrap (Int.tdiv (a0.length : Int) (16 : Int))))))
theorem ok104 N a0 a1 {r} (h : F104 N a0 a1 = some r) : Con prog 104 [Vv (.sl (.int .u8)) a0, I a1] [.lf (.v (.int .i64) r)] := by
 refine ctr [.lf (.v (.int .i64))] K func104 rfl fun w0 E0 ht => ?_
 unfold F104 at h
 show VW _ _ _ _ _ (retQ _ _ _ _) _
 refine nR K (tn 1) <| nR K (pu 2 (an (show ((16 : Int) ≠ 0) from by decide) (tn 2))) <| sq <| nR K (tn 3) ?_
 refine cnd h ?_ ?_<;>intro h
 ·refine nR K (tn 2) ?_
  cases h; exact VW.ret (rt [])
 refine VW.skip <| nR K (tn 2) ?_
 cases h; exact VW.ret (rt [])
def F59 (N : Nat) (a0 : Z84) (a1 : (List Int)) : Option (Z84 × (List Z50)) :=
  andO (F104 N a1 (7 : Int)) fun y1 => andO (F52 N a0 y1) fun y2 => andO (F103 N y2.1 (IntKind.i64.wrap ((1 : Int) + y2.2))) fun y3 => some (y3.1, y3.2.1)
theorem ok59 N a0 a1 {r} (h : F59 N a0 a1 = some r) : ConM prog 59 [bx (lv Y84 a0) 85] [.lf (.ptr 0 0 0 0), Vv (.sl (.int .u8)) a1] [.lf (.own Y50 r.2 .dp)] [bx (lv Y84 r.1) 85] := by
 refine ⟨enters_of func59 rfl (by decide), HM.intro [.lf (.own Y50 .dp)] K func59 rfl (Nat.le_of_ble_eq_true rfl) (Nat.le_of_ble_eq_true rfl) fun w0 E0 ht => ?_⟩
 unfold F59 at h
 show VW _ _ _ _ _ (retM _ _ _ _ _) _
 refine nR K (tn 1) <| sq <| VW.region <| nG K 3 (tn 3) ?_
 obtain⟨y1,hy,h⟩:=aS h
 refine clc false [.t (.sl (.int .u8)), .t (.int .i64)] [] (some 11) K (ok104 N _ _ hy) ?_
 obtain⟨y2,hy,h⟩:=aS h
 refine VO.callM [0] [.r, .t (.int .i64)] (d := some 12) (by kernel_rfl) (by kernel_rfl) (ok52 N _ _ hy) (by kernel_rfl) <| nG K 1 (tn 1) ?_
 obtain⟨y3,hy,h⟩:=aS h
 refine VO.callM [0] [.r, .t (.int .i64)] (d := some 14) (by kernel_rfl) (by kernel_rfl) (ok103 N _ _ hy) (by kernel_rfl) <| nN K (tn 5) <| nR K (tn 2) ?_
 replace h := Option.some.inj h
 subst h
 refine VW.ghl [.ren [4, 65536] [0, 1]] (VW.ret ?_)
 exact ⟨[some 1], by kernel_rfl, by kernel_rfl, by kernel_rfl⟩
def F60_j0 (N : Nat) (x22 : (List Z50)) (x23 : (List Int)) (x24 : Int) (x25 : Int) : Option (Z84 × (List Z50)) :=
  some ((x23, (x24, x25)), x22)
def F60 (N : Nat) (a0 : Z84) (a1 : (List Z50)) : Option (Z84 × (List Z50)) :=
  andO (F34 N a0 (8 : Int)) fun y2 => cond (!y2.2) (some (y2.1, a1)) (cond ((a1.length : Int) == (0 : Int)) (some (y2.1, a1)) (andO (F52 N y2.1 (a1.length : Int)) fun y3 => andO (F52 N y3.1 (7 : Int)) fun y27 => cond (y27.2 == (0 : Int)) (andO (F52 N y27.1 (10 : Int)) fun y28 => gd (InR y3.2 a1.length) (gd (y3.2.toNat < a1.length) (F60_j0 N (a1.set y3.2.toNat ((IntKind.i64.wrap (y28.2 - (1 : Int))), ((a1.getD y3.2.toNat (Ty.dflt Y50)).2.1, ((a1.getD y3.2.toNat (Ty.dflt Y50)).2.2.1, ((a1.getD y3.2.toNat (Ty.dflt Y50)).2.2.2.1, ((a1.getD y3.2.toNat (Ty.dflt Y50)).2.2.2.2.1, ((a1.getD y3.2.toNat (Ty.dflt Y50)).2.2.2.2.2.1, (a1.getD y3.2.toNat (Ty.dflt Y50)).2.2.2.2.2.2))))))) y28.1.1 y28.1.2.1 y28.1.2.2))) (cond (y27.2 == (1 : Int)) (andO (F99 N y27.1 ([(-1 : Int), (63 : Int), (64 : Int), (2 : Int)])) fun y31 => gd (InR y3.2 a1.length) (gd (y3.2.toNat < a1.length) (F60_j0 N (a1.set y3.2.toNat ((a1.getD y3.2.toNat (Ty.dflt Y50)).1, ((a1.getD y3.2.toNat (Ty.dflt Y50)).2.1, (y31.2, ((a1.getD y3.2.toNat (Ty.dflt Y50)).2.2.2.1, ((a1.getD y3.2.toNat (Ty.dflt Y50)).2.2.2.2.1, ((a1.getD y3.2.toNat (Ty.dflt Y50)).2.2.2.2.2.1, (a1.getD y3.2.toNat (Ty.dflt Y50)).2.2.2.2.2.2))))))) y31.1.1 y31.1.2.1 y31.1.2.2))) (cond (y27.2 == (2 : Int)) (andO (F99 N y27.1 ([(-1 : Int), (1000000 : Int), (1000001 : Int)])) fun y34 => gd (InR y3.2 a1.length) (gd (y3.2.toNat < a1.length) (F60_j0 N (a1.set y3.2.toNat ((a1.getD y3.2.toNat (Ty.dflt Y50)).1, ((a1.getD y3.2.toNat (Ty.dflt Y50)).2.1, ((a1.getD y3.2.toNat (Ty.dflt Y50)).2.2.1, ((a1.getD y3.2.toNat (Ty.dflt Y50)).2.2.2.1, (y34.2, ((a1.getD y3.2.toNat (Ty.dflt Y50)).2.2.2.2.2.1, (a1.getD y3.2.toNat (Ty.dflt Y50)).2.2.2.2.2.2))))))) y34.1.1 y34.1.2.1 y34.1.2.2))) (cond (y27.2 == (3 : Int)) (gd (InR y3.2 a1.length) (gd (y3.2.toNat < a1.length) (F60_j0 N (a1.set y3.2.toNat ((a1.getD y3.2.toNat (Ty.dflt Y50)).1, ((a1.getD y3.2.toNat (Ty.dflt Y50)).2.1, ((a1.getD y3.2.toNat (Ty.dflt Y50)).2.2.1, ((a1.getD y3.2.toNat (Ty.dflt Y50)).2.2.2.1, ((a1.getD y3.2.toNat (Ty.dflt Y50)).2.2.2.2.1, (true, (a1.getD y3.2.toNat (Ty.dflt Y50)).2.2.2.2.2.2))))))) y27.1.1 y27.1.2.1 y27.1.2.2))) (cond (y27.2 == (4 : Int)) (gd (InR y3.2 a1.length) (gd (y3.2.toNat < a1.length) (gd (a1.length + ([(a1.getD y3.2.toNat (Ty.dflt Y50))]).length ≤ lim Y50) (F60_j0 N (a1 ++ ([(a1.getD y3.2.toNat (Ty.dflt Y50))])) y27.1.1 y27.1.2.1 y27.1.2.2)))) (cond (y27.2 == (5 : Int)) (gd (0 ≤ y3.2 ∧ y3.2 ≤ (a1.length : Int)) (F60_j0 N (a1.take y3.2.toNat) y27.1.1 y27.1.2.1 y27.1.2.2)) (cond (y27.2 == (6 : Int)) (gd (InR y3.2 a1.length) (gd (0 ≤ y3.2 ∧ y3.2.toNat < a1.length ∧ ((a1.getD y3.2.toNat (Ty.dflt Y50)).2.2.2.2.2.2).length + 1 ≤ lim (.int .i64)) (F60_j0 N (a1.set y3.2.toNat ((a1.getD y3.2.toNat (Ty.dflt Y50)).1, ((a1.getD y3.2.toNat (Ty.dflt Y50)).2.1, ((a1.getD y3.2.toNat (Ty.dflt Y50)).2.2.1, ((a1.getD y3.2.toNat (Ty.dflt Y50)).2.2.2.1, ((a1.getD y3.2.toNat (Ty.dflt Y50)).2.2.2.2.1, ((a1.getD y3.2.toNat (Ty.dflt Y50)).2.2.2.2.2.1, (((a1.getD y3.2.toNat (Ty.dflt Y50)).2.2.2.2.2.2) ++ [(0 : Int)])))))))) y27.1.1 y27.1.2.1 y27.1.2.2))) (F60_j0 N a1 y27.1.1 y27.1.2.1 y27.1.2.2)))))))))
theorem ok60 N a0 a1 {r} (h : F60 N a0 a1 = some r) : ConM prog 60 [bx (lv Y84 a0) 85, ar 0 Y50 a1 .dp] [.lf (.ptr 0 0 0 0), hh 1] [.lf (.own Y50 r.2 .tp)] [bx (lv Y84 r.1) 85, none] := by
 refine ⟨enters_of func60 rfl (by decide), HM.intro [.lf (.own Y50 .tp)] K func60 rfl (Nat.le_of_ble_eq_true rfl) (Nat.le_of_ble_eq_true rfl) fun w0 E0 ht => ?_⟩
 unfold F60 at h
 show VW _ _ _ _ _ (retM _ _ _ _ _) _
 refine nR K (tn 1) <| sq <| sq <| VW.region <| nG K 1 (tn 1) ?_
 obtain⟨y2,hy,h⟩:=aS h
 refine VO.callM [0] [.r, .t (.int .i64)] (d := some 7) (by kernel_rfl) (by kernel_rfl) (ok34 N _ _ hy) (by kernel_rfl) <| nG K 2 (tn 2) ?_
 refine spC 9 h ?_ ?_<;>intro h
 ·refine nN K (tn 4) ?_
  refine VW.cond (b := true) (by kernel_rfl) (fun _ => ?_) (fun h' => nomatch h')
  refine nR K (tn 2) ?_
  replace h := Option.some.inj h
  subst h
  refine VW.ghl [.wk 1, .ren [4, 65536] [0, 100001, 1]] (VW.ret ?_)
  exact ⟨[some 2], by kernel_rfl, by kernel_rfl, by kernel_rfl⟩
 refine nN K (tn 4) ?_
 refine cnd h ?_ ?_<;>intro h
 ·refine nR K (tn 2) ?_
  replace h := Option.some.inj h
  subst h
  refine VW.ghl [.wk 1, .ren [4, 65536] [0, 100001, 1]] (VW.ret ?_)
  exact ⟨[some 2], by kernel_rfl, by kernel_rfl, by kernel_rfl⟩
 refine VW.skip <| sq <| VW.region <| nG K 3 (tn 3) ?_
 obtain⟨y3,hy,h⟩:=aS h
 refine VO.callM [0] [.r, .t (.int .i64)] (d := some 18) (by kernel_rfl) (by kernel_rfl) (ok52 N _ _ hy) (by kernel_rfl) <| nN K (tn 1) ?_
 refine VW.join (fun s => ∃ x22 x23 x24 x25, s = ⟨[(1, hh 0), (65536, .lf (.ptr 1 0 0 0))], [ar 0 Y50 x22 .tp, bx [.v (.sl (.int .u8)) x23, zi x24, zi x25] 85]⟩ ∧ F60_j0 N x22 x23 x24 x25 = some r) ?_ ?_
 ·refine sq <| VW.region <| nG K 1 (tn 1) ?_
  obtain⟨y27,hy,h⟩:=aS h
  refine VO.callM [0] [.r, .t (.int .i64)] (d := some 20) (by kernel_rfl) (by kernel_rfl) (ok52 N _ _ hy) (by kernel_rfl) <| nN K (tn 0) <| VW.block <| nR K (tn 2) ?_
  refine cnd h ?_ ?_<;>intro h
  ·refine VW.region <| nG K 3 (tn 3) ?_
   obtain⟨y28,hy,h⟩:=aS h
   refine VO.callM [0] [.r, .t (.int .i64)] (d := some 26) (by kernel_rfl) (by kernel_rfl) (ok52 N _ _ hy) (by kernel_rfl) ?_
   obtain⟨g29,h⟩:=gS h
   obtain⟨g30,h⟩:=gS h
   refine nN K (pu 1 (an g29 (pu 1 (an g30 (tn 0))))) ?_
   exact arv [.wk 1, .ren [1, 65536] [1, 0]] ⟨(a1.set y3.2.toNat ((wr (y28.2 - (1 : Int))), ((a1.getD y3.2.toNat D50).2.1, ((a1.getD y3.2.toNat D50).2.2.1, ((a1.getD y3.2.toNat D50).2.2.2.1, ((a1.getD y3.2.toNat D50).2.2.2.2.1, ((a1.getD y3.2.toNat D50).2.2.2.2.2.1, (a1.getD y3.2.toNat D50).2.2.2.2.2.2))))))), y28.1.1, y28.1.2.1, y28.1.2.2, rfl, h⟩
  refine nR K (tn 2) ?_
  refine cnd h ?_ ?_<;>intro h
  ·refine VW.region <| nG K 4 (tn 4) ?_
   obtain⟨y31,hy,h⟩:=aS h
   refine VO.ghl [.frz 2] <| VO.callM [0] [.r, .t (.sl (.int .i64))] (d := some 36) (by kernel_rfl) (by kernel_rfl) (ok99 N _ _ hy) (by kernel_rfl) ?_
   obtain⟨g32,h⟩:=gS h
   obtain⟨g33,h⟩:=gS h
   refine nN K (an g32 (pu 1 (an g33 (tn 0)))) ?_
   exact arv [.wk 1, .ren [1, 65536] [1, 0]] ⟨(a1.set y3.2.toNat ((a1.getD y3.2.toNat D50).1, ((a1.getD y3.2.toNat D50).2.1, (y31.2, ((a1.getD y3.2.toNat D50).2.2.2.1, ((a1.getD y3.2.toNat D50).2.2.2.2.1, ((a1.getD y3.2.toNat D50).2.2.2.2.2.1, (a1.getD y3.2.toNat D50).2.2.2.2.2.2))))))), y31.1.1, y31.1.2.1, y31.1.2.2, rfl, h⟩
  refine nR K (tn 2) ?_
  refine cnd h ?_ ?_<;>intro h
  ·refine VW.region <| nG K 4 (tn 4) ?_
   obtain⟨y34,hy,h⟩:=aS h
   refine VO.ghl [.frz 2] <| VO.callM [0] [.r, .t (.sl (.int .i64))] (d := some 45) (by kernel_rfl) (by kernel_rfl) (ok99 N _ _ hy) (by kernel_rfl) ?_
   obtain⟨g35,h⟩:=gS h
   obtain⟨g36,h⟩:=gS h
   refine nN K (an g35 (pu 1 (an g36 (tn 0)))) ?_
   exact arv [.wk 1, .ren [1, 65536] [1, 0]] ⟨(a1.set y3.2.toNat ((a1.getD y3.2.toNat D50).1, ((a1.getD y3.2.toNat D50).2.1, ((a1.getD y3.2.toNat D50).2.2.1, ((a1.getD y3.2.toNat D50).2.2.2.1, (y34.2, ((a1.getD y3.2.toNat D50).2.2.2.2.2.1, (a1.getD y3.2.toNat D50).2.2.2.2.2.2))))))), y34.1.1, y34.1.2.1, y34.1.2.2, rfl, h⟩
  refine nR K (tn 2) ?_
  refine cnd h ?_ ?_<;>intro h
  ·obtain⟨g37,h⟩:=gS h
   obtain⟨g38,h⟩:=gS h
   refine nE K (pu 2 (an g37 (pu 1 (an g38 (tn 0))))) ?_
   exact arv [.wk 1, .ren [1, 65536] [1, 0]] ⟨(a1.set y3.2.toNat ((a1.getD y3.2.toNat D50).1, ((a1.getD y3.2.toNat D50).2.1, ((a1.getD y3.2.toNat D50).2.2.1, ((a1.getD y3.2.toNat D50).2.2.2.1, ((a1.getD y3.2.toNat D50).2.2.2.2.1, (true, (a1.getD y3.2.toNat D50).2.2.2.2.2.2))))))), y27.1.1, y27.1.2.1, y27.1.2.2, rfl, h⟩
  refine nR K (tn 2) ?_
  refine cnd h ?_ ?_<;>intro h
  ·refine VW.region ?_
   obtain⟨g39,h⟩:=gS h
   refine sG K 4 [56, 59, 65536] [1, 0] ⟨[(56, hh 0), (59, .lf (.ptr 0 0 y3.2.toNat 0)), (65536, .lf (.ptr 1 0 0 0))], [ar 0 Y50 a1 .dp, bx (lv Y84 y27.1) 85]⟩ (pu 3 (an g39 (tn 0))) <| VO.ghl [.wk 0] ?_
   obtain⟨g40,h⟩:=gS h
   obtain⟨g41,h⟩:=gS h
   refine nN K (an g40 (pu 1 (an g41 (tn 1)))) ?_
   exact arv [.ren [1, 65536] [0, 1]] ⟨(a1 ++ ([(a1.getD y3.2.toNat D50)])), y27.1.1, y27.1.2.1, y27.1.2.2, rfl, h⟩
  refine sR K [1, 5, 20, 63, 65536] [1, 0] ⟨[(1, hh 0), (5, I y3.2), (20, I y27.2), (63, B (y27.2 == (5 : Int))), (65536, .lf (.ptr 1 0 0 0))], [ar 0 Y50 a1 .dp, bx (lv Y84 y27.1) 85]⟩ (tn 2) ?_
  refine cnd h ?_ ?_<;>intro h
  ·obtain⟨g42,h⟩:=gS h
   refine nE K (pu 2 (an g42 (tn 1))) ?_
   exact arv [.shr 1, .wk 0, .ren [1, 65536] [0, 1]] ⟨(a1.take y3.2.toNat), y27.1.1, y27.1.2.1, y27.1.2.2, rfl, h⟩
  refine nR K (tn 2) ?_
  refine cnd h ?_ ?_<;>intro h
  ·refine VW.region ?_
   obtain⟨g43,h⟩:=gS h
   refine nG K 6 (pu 4 (an g43 (tn 1))) ?_
   obtain⟨g44,h⟩:=gS h
   refine VO.colApp (d1 := 76) (d2 := 77) (d3 := 78) (d4 := 79) (d5 := 80) (id := 0) (cur := 0) (i := y3.2.toNat) (j := 6) (z := y3.2) (c := (0 : Int)) (kk := .i64) (k := .i64) (e := Y50) (xs := a1) (ys := ((a1.getD y3.2.toNat D50).2.2.2.2.2.2)) (x' := ((a1.getD y3.2.toNat D50).1, ((a1.getD y3.2.toNat D50).2.1, ((a1.getD y3.2.toNat D50).2.2.1, ((a1.getD y3.2.toNat D50).2.2.2.1, ((a1.getD y3.2.toNat D50).2.2.2.2.1, ((a1.getD y3.2.toNat D50).2.2.2.2.2.1, (((a1.getD y3.2.toNat D50).2.2.2.2.2.2) ++ [(0 : Int)])))))))) K ⟨rfl, rfl, rfl⟩ ⟨rfl, rfl, rfl⟩ rfl ⟨rfl, rfl, rfl⟩ ⟨rfl, rfl, rfl⟩ ⟨rfl, rfl, rfl⟩ ⟨rfl, rfl, rfl⟩ ⟨rfl, rfl, rfl⟩ (by kernel_rfl) rfl (by kernel_rfl) (by kernel_rfl) (by kernel_rfl) (by kernel_rfl) (by kernel_rfl) (by kernel_rfl) (by kernel_rfl) (by kernel_rfl) ⟨g44.1, rfl⟩ g44.2 ?_
   refine sN K [1, 65536] [0, 1] ⟨[(1, hh 0), (65536, .lf (.ptr 1 0 0 0))], [ar 0 Y50 (a1.set y3.2.toNat ((a1.getD y3.2.toNat D50).1, ((a1.getD y3.2.toNat D50).2.1, ((a1.getD y3.2.toNat D50).2.2.1, ((a1.getD y3.2.toNat D50).2.2.2.1, ((a1.getD y3.2.toNat D50).2.2.2.2.1, ((a1.getD y3.2.toNat D50).2.2.2.2.2.1, (((a1.getD y3.2.toNat D50).2.2.2.2.2.2) ++ [(0 : Int)])))))))) .dp, bx (lv Y84 y27.1) 85]⟩ (tn 0) ?_
   exact arv [.wk 0, .ren [1, 65536] [0, 1]] ⟨(a1.set y3.2.toNat ((a1.getD y3.2.toNat D50).1, ((a1.getD y3.2.toNat D50).2.1, ((a1.getD y3.2.toNat D50).2.2.1, ((a1.getD y3.2.toNat D50).2.2.2.1, ((a1.getD y3.2.toNat D50).2.2.2.2.1, ((a1.getD y3.2.toNat D50).2.2.2.2.2.1, (((a1.getD y3.2.toNat D50).2.2.2.2.2.2) ++ [(0 : Int)])))))))), y27.1.1, y27.1.2.1, y27.1.2.2, rfl, h⟩
  refine VW.skip ?_
  exact arv [.wk 0, .ren [1, 65536] [0, 1]] ⟨a1, y27.1.1, y27.1.2.1, y27.1.2.2, rfl, h⟩
 rintro s ⟨x22, x23, x24, x25, rfl, h⟩
 unfold F60_j0 at h
 refine nR K (tn 2) ?_
 replace h := Option.some.inj h
 subst h
 refine VW.ghl [.ren [4, 65536] [1, 100001, 0]] (VW.ret ?_)
 exact ⟨[some 2], by kernel_rfl, by kernel_rfl, by kernel_rfl⟩
def F35_j0 (N : Nat) (x169 : (List Int)) (x170 : Int) (x171 : Int) (x172 : (List Z50)) : Option (Z84 × (List Z50)) :=
  andO (F60 N (x169, (x170, x171)) x172) fun y173 => some (y173.1, y173.2)
def F35_j1 (N : Nat) (nx289 : (List Int) → Int → Int → (List Z50) → Int → Int → Option (Z84 × (List Z50))) (x236 : Int) (x313 : (List Int)) (x314 : Int) (x315 : Int) (x316 : (List Z50)) (x317 : Int) : Option (Z84 × (List Z50)) :=
  nx289 x313 x314 x315 x316 x317 (IntKind.i64.wrap (x236 + (1 : Int)))
def F35_l0_b (N : Nat) (nx289 : (List Int) → Int → Int → (List Z50) → Int → Int → Option (Z84 × (List Z50))) (x231 : (List Int)) (x232 : Int) (x233 : Int) (x234 : (List Z50)) (x235 : Int) (x236 : Int) : Option (Z84 × (List Z50)) :=
  cond (decide (x236 < (x234.length : Int))) (gd (InR x236 x234.length) (gd (x236.toNat < x234.length) (cond (((x234.getD x236.toNat (Ty.dflt Y50)).1) == (1 : Int)) (gd (InR x236 x234.length) (gd (x236.toNat < x234.length) (cond (((x234.getD x236.toNat (Ty.dflt Y50)).2.2.2.1) != (3 : Int)) (andO (F34 N (x231, (x232, x233)) (3 : Int)) fun y323 => cond y323.2 (gd (InR x236 x234.length) (gd (x236.toNat < x234.length) (gd (InR x236 (x234.set x236.toNat ((x234.getD x236.toNat (Ty.dflt Y50)).1, ((x234.getD x236.toNat (Ty.dflt Y50)).2.1, ((x234.getD x236.toNat (Ty.dflt Y50)).2.2.1, ((x234.getD x236.toNat (Ty.dflt Y50)).2.2.2.1, ((x234.getD x236.toNat (Ty.dflt Y50)).2.2.2.2.1, (true, (x234.getD x236.toNat (Ty.dflt Y50)).2.2.2.2.2.2))))))).length) (gd (x236.toNat < (x234.set x236.toNat ((x234.getD x236.toNat (Ty.dflt Y50)).1, ((x234.getD x236.toNat (Ty.dflt Y50)).2.1, ((x234.getD x236.toNat (Ty.dflt Y50)).2.2.1, ((x234.getD x236.toNat (Ty.dflt Y50)).2.2.2.1, ((x234.getD x236.toNat (Ty.dflt Y50)).2.2.2.2.1, (true, (x234.getD x236.toNat (Ty.dflt Y50)).2.2.2.2.2.2))))))).length) (F35_j1 N nx289 x236 y323.1.1 y323.1.2.1 y323.1.2.2 (x234.set x236.toNat ((x234.getD x236.toNat (Ty.dflt Y50)).1, ((x234.getD x236.toNat (Ty.dflt Y50)).2.1, ((x234.getD x236.toNat (Ty.dflt Y50)).2.2.1, ((x234.getD x236.toNat (Ty.dflt Y50)).2.2.2.1, (x235, (true, (x234.getD x236.toNat (Ty.dflt Y50)).2.2.2.2.2.2))))))) (IntKind.i64.wrap (x235 + (1 : Int)))))))) (F35_j1 N nx289 x236 y323.1.1 y323.1.2.1 y323.1.2.2 x234 x235)) (gd (InR x236 x234.length) (gd (x236.toNat < x234.length) (cond (((x234.getD x236.toNat (Ty.dflt Y50)).1) == (6 : Int)) (andO (F34 N (x231, (x232, x233)) (3 : Int)) fun y330 => cond y330.2 (gd (InR x236 x234.length) (gd (x236.toNat < x234.length) (gd (InR x236 (x234.set x236.toNat ((x234.getD x236.toNat (Ty.dflt Y50)).1, ((x234.getD x236.toNat (Ty.dflt Y50)).2.1, ((x234.getD x236.toNat (Ty.dflt Y50)).2.2.1, ((x234.getD x236.toNat (Ty.dflt Y50)).2.2.2.1, ((x234.getD x236.toNat (Ty.dflt Y50)).2.2.2.2.1, (true, (x234.getD x236.toNat (Ty.dflt Y50)).2.2.2.2.2.2))))))).length) (gd (x236.toNat < (x234.set x236.toNat ((x234.getD x236.toNat (Ty.dflt Y50)).1, ((x234.getD x236.toNat (Ty.dflt Y50)).2.1, ((x234.getD x236.toNat (Ty.dflt Y50)).2.2.1, ((x234.getD x236.toNat (Ty.dflt Y50)).2.2.2.1, ((x234.getD x236.toNat (Ty.dflt Y50)).2.2.2.2.1, (true, (x234.getD x236.toNat (Ty.dflt Y50)).2.2.2.2.2.2))))))).length) (F35_j1 N nx289 x236 y330.1.1 y330.1.2.1 y330.1.2.2 (x234.set x236.toNat ((x234.getD x236.toNat (Ty.dflt Y50)).1, ((x234.getD x236.toNat (Ty.dflt Y50)).2.1, ((x234.getD x236.toNat (Ty.dflt Y50)).2.2.1, ((x234.getD x236.toNat (Ty.dflt Y50)).2.2.2.1, (x235, (true, (x234.getD x236.toNat (Ty.dflt Y50)).2.2.2.2.2.2))))))) (IntKind.i64.wrap (x235 + (1 : Int)))))))) (F35_j1 N nx289 x236 y330.1.1 y330.1.2.1 y330.1.2.2 x234 x235)) (F35_j1 N nx289 x236 x231 x232 x233 x234 x235))))))) (gd (InR x236 x234.length) (gd (x236.toNat < x234.length) (cond (((x234.getD x236.toNat (Ty.dflt Y50)).1) == (6 : Int)) (andO (F34 N (x231, (x232, x233)) (3 : Int)) fun y337 => cond y337.2 (gd (InR x236 x234.length) (gd (x236.toNat < x234.length) (gd (InR x236 (x234.set x236.toNat ((x234.getD x236.toNat (Ty.dflt Y50)).1, ((x234.getD x236.toNat (Ty.dflt Y50)).2.1, ((x234.getD x236.toNat (Ty.dflt Y50)).2.2.1, ((x234.getD x236.toNat (Ty.dflt Y50)).2.2.2.1, ((x234.getD x236.toNat (Ty.dflt Y50)).2.2.2.2.1, (true, (x234.getD x236.toNat (Ty.dflt Y50)).2.2.2.2.2.2))))))).length) (gd (x236.toNat < (x234.set x236.toNat ((x234.getD x236.toNat (Ty.dflt Y50)).1, ((x234.getD x236.toNat (Ty.dflt Y50)).2.1, ((x234.getD x236.toNat (Ty.dflt Y50)).2.2.1, ((x234.getD x236.toNat (Ty.dflt Y50)).2.2.2.1, ((x234.getD x236.toNat (Ty.dflt Y50)).2.2.2.2.1, (true, (x234.getD x236.toNat (Ty.dflt Y50)).2.2.2.2.2.2))))))).length) (F35_j1 N nx289 x236 y337.1.1 y337.1.2.1 y337.1.2.2 (x234.set x236.toNat ((x234.getD x236.toNat (Ty.dflt Y50)).1, ((x234.getD x236.toNat (Ty.dflt Y50)).2.1, ((x234.getD x236.toNat (Ty.dflt Y50)).2.2.1, ((x234.getD x236.toNat (Ty.dflt Y50)).2.2.2.1, (x235, (true, (x234.getD x236.toNat (Ty.dflt Y50)).2.2.2.2.2.2))))))) (IntKind.i64.wrap (x235 + (1 : Int)))))))) (F35_j1 N nx289 x236 y337.1.1 y337.1.2.1 y337.1.2.2 x234 x235)) (F35_j1 N nx289 x236 x231 x232 x233 x234 x235))))))) (F35_j0 N x231 x232 x233 x234)
def F35_l0 (N : Nat) := loopF (F35_l0_b N) (fun _ _ _ _ _ _ => none)
theorem F35_l0_s N {k} (hk : 0 < k) x231 x232 x233 x234 x235 x236 : F35_l0 N k x231 x232 x233 x234 x235 x236 = F35_l0_b N (F35_l0 N (k - 1)) x231 x232 x233 x234 x235 x236 := by cases k;cases hk;rfl
def F35 (N : Nat) (a0 : Z84) (a1 : (List Int)) : Option (Z84 × (List Z50)) :=
  andO (F59 N a0 a1) fun y1 => F35_l0 N N y1.1.1 y1.1.2.1 y1.1.2.2 y1.2 (0 : Int) (0 : Int)
theorem ok35 N a0 a1 {r} (h : F35 N a0 a1 = some r) : ConM prog 35 [bx (lv Y84 a0) 85] [.lf (.ptr 0 0 0 0), Vv (.sl (.int .u8)) a1] [.lf (.own Y50 r.2 .tp)] [bx (lv Y84 r.1) 85] := by
 refine ⟨enters_of func35 rfl (by decide), HM.intro [.lf (.own Y50 .tp)] K func35 rfl (Nat.le_of_ble_eq_true rfl) (Nat.le_of_ble_eq_true rfl) fun w0 E0 ht => ?_⟩
 unfold F35 at h
 show VW _ _ _ _ _ (retM _ _ _ _ _) _
 refine nR K (tn 1) <| sq <| VW.region <| nG K 2 (tn 2) ?_
 obtain⟨y1,hy,h⟩:=aS h
 refine VO.callM [0] [.r, .t (.sl (.int .u8))] (d := some 10) (by kernel_rfl) (by kernel_rfl) (ok59 N _ _ hy) (by kernel_rfl) <| nN K (tn 1) <| nR K (tn 1) ?_
 refine VW.join (fun s => ∃ x169 x170 x171 x172, s = ⟨[(0, .lf (.ptr 0 0 0 0)), (5, hh 1), (65536, .lf (.ptr 0 0 0 0))], [bx [.v (.sl (.int .u8)) x169, zi x170, zi x171] 85, ar 0 Y50 x172 .dp]⟩ ∧ F35_j0 N x169 x170 x171 x172 = some r) ?_ ?_
 ·refine nR K (tn 1) <| VW.block <| lop (fun k s => ∃ x231 x232 x233 x234 x235 x236, s = ⟨[(0, .lf (.ptr 0 0 0 0)), (5, hh 1), (6, I x235), (7, I x236), (65536, .lf (.ptr 0 0 0 0))], [bx [.v (.sl (.int .u8)) x231, zi x232, zi x233] 85, ar 0 Y50 x234 .dp]⟩ ∧ F35_l0 N k x231 x232 x233 x234 x235 x236 = some r) N [.ren [0, 5, 6, 7, 65536] [0, 1]] ⟨y1.1.1, y1.1.2.1, y1.1.2.2, y1.2, (0 : Int), (0 : Int), rfl, h⟩ ?_
  rintro k289 s ⟨x231, x232, x233, x234, x235, x236, rfl, h⟩
  cases k289 with
  | zero => cases show none = some r from h
  | succ k289 =>
   replace h : F35_l0_b N (F35_l0 N k289) x231 x232 x233 x234 x235 x236 = some r := h
   unfold F35_l0_b at h
   refine sq <| nR K (tn 4) ?_
   refine cnd h ?_ ?_<;>intro h
   ·refine VW.skip ?_
    refine VW.join (fun s => ∃ x313 x314 x315 x316 x317, s = ⟨[(0, .lf (.ptr 0 0 0 0)), (5, hh 1), (6, I x317), (7, I x236), (65536, .lf (.ptr 0 0 0 0))], [bx [.v (.sl (.int .u8)) x313, zi x314, zi x315] 85, ar 0 Y50 x316 .dp]⟩ ∧ F35_j1 N (F35_l0 N k289) x236 x313 x314 x315 x316 x317 = some r) ?_ ?_
    ·refine VW.block <| sq <| VW.region ?_
     obtain⟨g319,h⟩:=gS h
     obtain⟨g320,h⟩:=gS h
     refine nG K 7 (pu 2 (an g319 (pu 1 (an g320 (tn 2))))) ?_
     refine spC 23 h ?_ ?_<;>intro h
     ·obtain⟨g321,h⟩:=gS h
      obtain⟨g322,h⟩:=gS h
      refine nG K 8 (pu 2 (an g321 (pu 1 (an g322 (tn 3))))) ?_
      refine spC 31 h ?_ ?_<;>intro h
      ·refine nG K 9 (tn 9) <| VO.on (j := 22) (want := true) (d := 39) (b := true) rfl rfl rfl (by kernel_rfl) rfl ?_
       obtain⟨y323,hy,h⟩:=aS h
       refine VO.callM [0] [.r, .t (.int .i64)] (d := some 41) (by kernel_rfl) (by kernel_rfl) (ok34 N _ _ hy) (by kernel_rfl) <| nN K (tn 1) ?_
       refine cnd h ?_ ?_<;>intro h
       ·obtain⟨g324,h⟩:=gS h
        obtain⟨g325,h⟩:=gS h
        refine nR K (pu 2 (an g324 (pu 1 (an g325 (tn 0))))) <| sq <| VW.region ?_
        obtain⟨g326,h⟩:=gS h
        obtain⟨g327,h⟩:=gS h
        refine sG K 6 [0, 5, 6, 7, 65536] [0, 1] ⟨[(0, .lf (.ptr 0 0 0 0)), (5, hh 1), (6, I x235), (7, I x236), (65536, .lf (.ptr 0 0 0 0))], [bx (lv Y84 y323.1) 85, ar 0 Y50 ((x234.set x236.toNat ((x234.getD x236.toNat D50).1, ((x234.getD x236.toNat D50).2.1, ((x234.getD x236.toNat D50).2.2.1, ((x234.getD x236.toNat D50).2.2.2.1, ((x234.getD x236.toNat D50).2.2.2.2.1, (true, (x234.getD x236.toNat D50).2.2.2.2.2.2))))))).set x236.toNat (((x234.set x236.toNat ((x234.getD x236.toNat D50).1, ((x234.getD x236.toNat D50).2.1, ((x234.getD x236.toNat D50).2.2.1, ((x234.getD x236.toNat D50).2.2.2.1, ((x234.getD x236.toNat D50).2.2.2.2.1, (true, (x234.getD x236.toNat D50).2.2.2.2.2.2))))))).getD x236.toNat D50).1, (((x234.set x236.toNat ((x234.getD x236.toNat D50).1, ((x234.getD x236.toNat D50).2.1, ((x234.getD x236.toNat D50).2.2.1, ((x234.getD x236.toNat D50).2.2.2.1, ((x234.getD x236.toNat D50).2.2.2.2.1, (true, (x234.getD x236.toNat D50).2.2.2.2.2.2))))))).getD x236.toNat D50).2.1, (((x234.set x236.toNat ((x234.getD x236.toNat D50).1, ((x234.getD x236.toNat D50).2.1, ((x234.getD x236.toNat D50).2.2.1, ((x234.getD x236.toNat D50).2.2.2.1, ((x234.getD x236.toNat D50).2.2.2.2.1, (true, (x234.getD x236.toNat D50).2.2.2.2.2.2))))))).getD x236.toNat D50).2.2.1, (((x234.set x236.toNat ((x234.getD x236.toNat D50).1, ((x234.getD x236.toNat D50).2.1, ((x234.getD x236.toNat D50).2.2.1, ((x234.getD x236.toNat D50).2.2.2.1, ((x234.getD x236.toNat D50).2.2.2.2.1, (true, (x234.getD x236.toNat D50).2.2.2.2.2.2))))))).getD x236.toNat D50).2.2.2.1, (x235, (((x234.set x236.toNat ((x234.getD x236.toNat D50).1, ((x234.getD x236.toNat D50).2.1, ((x234.getD x236.toNat D50).2.2.1, ((x234.getD x236.toNat D50).2.2.2.1, ((x234.getD x236.toNat D50).2.2.2.2.1, (true, (x234.getD x236.toNat D50).2.2.2.2.2.2))))))).getD x236.toNat D50).2.2.2.2.2.1, ((x234.set x236.toNat ((x234.getD x236.toNat D50).1, ((x234.getD x236.toNat D50).2.1, ((x234.getD x236.toNat D50).2.2.1, ((x234.getD x236.toNat D50).2.2.2.1, ((x234.getD x236.toNat D50).2.2.2.2.1, (true, (x234.getD x236.toNat D50).2.2.2.2.2.2))))))).getD x236.toNat D50).2.2.2.2.2.2))))))) .dp]⟩ (pu 3 (an g326 (pu 1 (an g327 (tn 0))))) ?_
        rw [show ((x234.set x236.toNat ((x234.getD x236.toNat D50).1, ((x234.getD x236.toNat D50).2.1, ((x234.getD x236.toNat D50).2.2.1, ((x234.getD x236.toNat D50).2.2.2.1, ((x234.getD x236.toNat D50).2.2.2.2.1, (true, (x234.getD x236.toNat D50).2.2.2.2.2.2))))))).set x236.toNat (((x234.set x236.toNat ((x234.getD x236.toNat D50).1, ((x234.getD x236.toNat D50).2.1, ((x234.getD x236.toNat D50).2.2.1, ((x234.getD x236.toNat D50).2.2.2.1, ((x234.getD x236.toNat D50).2.2.2.2.1, (true, (x234.getD x236.toNat D50).2.2.2.2.2.2))))))).getD x236.toNat D50).1, (((x234.set x236.toNat ((x234.getD x236.toNat D50).1, ((x234.getD x236.toNat D50).2.1, ((x234.getD x236.toNat D50).2.2.1, ((x234.getD x236.toNat D50).2.2.2.1, ((x234.getD x236.toNat D50).2.2.2.2.1, (true, (x234.getD x236.toNat D50).2.2.2.2.2.2))))))).getD x236.toNat D50).2.1, (((x234.set x236.toNat ((x234.getD x236.toNat D50).1, ((x234.getD x236.toNat D50).2.1, ((x234.getD x236.toNat D50).2.2.1, ((x234.getD x236.toNat D50).2.2.2.1, ((x234.getD x236.toNat D50).2.2.2.2.1, (true, (x234.getD x236.toNat D50).2.2.2.2.2.2))))))).getD x236.toNat D50).2.2.1, (((x234.set x236.toNat ((x234.getD x236.toNat D50).1, ((x234.getD x236.toNat D50).2.1, ((x234.getD x236.toNat D50).2.2.1, ((x234.getD x236.toNat D50).2.2.2.1, ((x234.getD x236.toNat D50).2.2.2.2.1, (true, (x234.getD x236.toNat D50).2.2.2.2.2.2))))))).getD x236.toNat D50).2.2.2.1, (x235, (((x234.set x236.toNat ((x234.getD x236.toNat D50).1, ((x234.getD x236.toNat D50).2.1, ((x234.getD x236.toNat D50).2.2.1, ((x234.getD x236.toNat D50).2.2.2.1, ((x234.getD x236.toNat D50).2.2.2.2.1, (true, (x234.getD x236.toNat D50).2.2.2.2.2.2))))))).getD x236.toNat D50).2.2.2.2.2.1, ((x234.set x236.toNat ((x234.getD x236.toNat D50).1, ((x234.getD x236.toNat D50).2.1, ((x234.getD x236.toNat D50).2.2.1, ((x234.getD x236.toNat D50).2.2.2.1, ((x234.getD x236.toNat D50).2.2.2.2.1, (true, (x234.getD x236.toNat D50).2.2.2.2.2.2))))))).getD x236.toNat D50).2.2.2.2.2.2))))))) = (x234.set x236.toNat ((x234.getD x236.toNat D50).1, ((x234.getD x236.toNat D50).2.1, ((x234.getD x236.toNat D50).2.2.1, ((x234.getD x236.toNat D50).2.2.2.1, (x235, (true, (x234.getD x236.toNat D50).2.2.2.2.2.2))))))) from set_upd x234 x236.toNat ((x234.getD x236.toNat D50).1, ((x234.getD x236.toNat D50).2.1, ((x234.getD x236.toNat D50).2.2.1, ((x234.getD x236.toNat D50).2.2.2.1, ((x234.getD x236.toNat D50).2.2.2.2.1, (true, (x234.getD x236.toNat D50).2.2.2.2.2.2)))))) D50 (fun z => (z.1, (z.2.1, (z.2.2.1, (z.2.2.2.1, (x235, (z.2.2.2.2.2.1, z.2.2.2.2.2.2))))))) (by first | (simp; done) | simpa using g327)]
        refine sN K [0, 5, 6, 7, 65536] [0, 1] ⟨[(0, .lf (.ptr 0 0 0 0)), (5, hh 1), (6, I x235), (7, I x236), (65536, .lf (.ptr 0 0 0 0))], [bx (lv Y84 y323.1) 85, ar 0 Y50 (x234.set x236.toNat ((x234.getD x236.toNat D50).1, ((x234.getD x236.toNat D50).2.1, ((x234.getD x236.toNat D50).2.2.1, ((x234.getD x236.toNat D50).2.2.2.1, (x235, (true, (x234.getD x236.toNat D50).2.2.2.2.2.2))))))) .dp]⟩ (tn 0) ?_
        refine nE K (tn 3) ?_
        exact arv [.ren [0, 5, 6, 7, 65536] [0, 1]] ⟨y323.1.1, y323.1.2.1, y323.1.2.2, (x234.set x236.toNat ((x234.getD x236.toNat D50).1, ((x234.getD x236.toNat D50).2.1, ((x234.getD x236.toNat D50).2.2.1, ((x234.getD x236.toNat D50).2.2.2.1, (x235, (true, (x234.getD x236.toNat D50).2.2.2.2.2.2))))))), (wr (x235 + (1 : Int))), rfl, h⟩
       refine VW.skip ?_
       exact arv [.ren [0, 5, 6, 7, 65536] [0, 1]] ⟨y323.1.1, y323.1.2.1, y323.1.2.2, x234, x235, rfl, h⟩
      obtain⟨g328,h⟩:=gS h
      obtain⟨g329,h⟩:=gS h
      refine nG K 8 (pu 2 (an g328 (pu 1 (an g329 (tn 3))))) ?_
      refine spC 39 h ?_ ?_<;>intro h
      ·refine nG K 1 (tn 1) <| VO.on (j := 22) (want := true) (d := 39) (b := true) rfl rfl rfl (by kernel_rfl) rfl ?_
       obtain⟨y330,hy,h⟩:=aS h
       refine VO.callM [0] [.r, .t (.int .i64)] (d := some 41) (by kernel_rfl) (by kernel_rfl) (ok34 N _ _ hy) (by kernel_rfl) <| nN K (tn 1) ?_
       refine cnd h ?_ ?_<;>intro h
       ·obtain⟨g331,h⟩:=gS h
        obtain⟨g332,h⟩:=gS h
        refine nR K (pu 2 (an g331 (pu 1 (an g332 (tn 0))))) <| sq <| VW.region ?_
        obtain⟨g333,h⟩:=gS h
        obtain⟨g334,h⟩:=gS h
        refine sG K 6 [0, 5, 6, 7, 65536] [0, 1] ⟨[(0, .lf (.ptr 0 0 0 0)), (5, hh 1), (6, I x235), (7, I x236), (65536, .lf (.ptr 0 0 0 0))], [bx (lv Y84 y330.1) 85, ar 0 Y50 ((x234.set x236.toNat ((x234.getD x236.toNat D50).1, ((x234.getD x236.toNat D50).2.1, ((x234.getD x236.toNat D50).2.2.1, ((x234.getD x236.toNat D50).2.2.2.1, ((x234.getD x236.toNat D50).2.2.2.2.1, (true, (x234.getD x236.toNat D50).2.2.2.2.2.2))))))).set x236.toNat (((x234.set x236.toNat ((x234.getD x236.toNat D50).1, ((x234.getD x236.toNat D50).2.1, ((x234.getD x236.toNat D50).2.2.1, ((x234.getD x236.toNat D50).2.2.2.1, ((x234.getD x236.toNat D50).2.2.2.2.1, (true, (x234.getD x236.toNat D50).2.2.2.2.2.2))))))).getD x236.toNat D50).1, (((x234.set x236.toNat ((x234.getD x236.toNat D50).1, ((x234.getD x236.toNat D50).2.1, ((x234.getD x236.toNat D50).2.2.1, ((x234.getD x236.toNat D50).2.2.2.1, ((x234.getD x236.toNat D50).2.2.2.2.1, (true, (x234.getD x236.toNat D50).2.2.2.2.2.2))))))).getD x236.toNat D50).2.1, (((x234.set x236.toNat ((x234.getD x236.toNat D50).1, ((x234.getD x236.toNat D50).2.1, ((x234.getD x236.toNat D50).2.2.1, ((x234.getD x236.toNat D50).2.2.2.1, ((x234.getD x236.toNat D50).2.2.2.2.1, (true, (x234.getD x236.toNat D50).2.2.2.2.2.2))))))).getD x236.toNat D50).2.2.1, (((x234.set x236.toNat ((x234.getD x236.toNat D50).1, ((x234.getD x236.toNat D50).2.1, ((x234.getD x236.toNat D50).2.2.1, ((x234.getD x236.toNat D50).2.2.2.1, ((x234.getD x236.toNat D50).2.2.2.2.1, (true, (x234.getD x236.toNat D50).2.2.2.2.2.2))))))).getD x236.toNat D50).2.2.2.1, (x235, (((x234.set x236.toNat ((x234.getD x236.toNat D50).1, ((x234.getD x236.toNat D50).2.1, ((x234.getD x236.toNat D50).2.2.1, ((x234.getD x236.toNat D50).2.2.2.1, ((x234.getD x236.toNat D50).2.2.2.2.1, (true, (x234.getD x236.toNat D50).2.2.2.2.2.2))))))).getD x236.toNat D50).2.2.2.2.2.1, ((x234.set x236.toNat ((x234.getD x236.toNat D50).1, ((x234.getD x236.toNat D50).2.1, ((x234.getD x236.toNat D50).2.2.1, ((x234.getD x236.toNat D50).2.2.2.1, ((x234.getD x236.toNat D50).2.2.2.2.1, (true, (x234.getD x236.toNat D50).2.2.2.2.2.2))))))).getD x236.toNat D50).2.2.2.2.2.2))))))) .dp]⟩ (pu 3 (an g333 (pu 1 (an g334 (tn 0))))) ?_
        rw [show ((x234.set x236.toNat ((x234.getD x236.toNat D50).1, ((x234.getD x236.toNat D50).2.1, ((x234.getD x236.toNat D50).2.2.1, ((x234.getD x236.toNat D50).2.2.2.1, ((x234.getD x236.toNat D50).2.2.2.2.1, (true, (x234.getD x236.toNat D50).2.2.2.2.2.2))))))).set x236.toNat (((x234.set x236.toNat ((x234.getD x236.toNat D50).1, ((x234.getD x236.toNat D50).2.1, ((x234.getD x236.toNat D50).2.2.1, ((x234.getD x236.toNat D50).2.2.2.1, ((x234.getD x236.toNat D50).2.2.2.2.1, (true, (x234.getD x236.toNat D50).2.2.2.2.2.2))))))).getD x236.toNat D50).1, (((x234.set x236.toNat ((x234.getD x236.toNat D50).1, ((x234.getD x236.toNat D50).2.1, ((x234.getD x236.toNat D50).2.2.1, ((x234.getD x236.toNat D50).2.2.2.1, ((x234.getD x236.toNat D50).2.2.2.2.1, (true, (x234.getD x236.toNat D50).2.2.2.2.2.2))))))).getD x236.toNat D50).2.1, (((x234.set x236.toNat ((x234.getD x236.toNat D50).1, ((x234.getD x236.toNat D50).2.1, ((x234.getD x236.toNat D50).2.2.1, ((x234.getD x236.toNat D50).2.2.2.1, ((x234.getD x236.toNat D50).2.2.2.2.1, (true, (x234.getD x236.toNat D50).2.2.2.2.2.2))))))).getD x236.toNat D50).2.2.1, (((x234.set x236.toNat ((x234.getD x236.toNat D50).1, ((x234.getD x236.toNat D50).2.1, ((x234.getD x236.toNat D50).2.2.1, ((x234.getD x236.toNat D50).2.2.2.1, ((x234.getD x236.toNat D50).2.2.2.2.1, (true, (x234.getD x236.toNat D50).2.2.2.2.2.2))))))).getD x236.toNat D50).2.2.2.1, (x235, (((x234.set x236.toNat ((x234.getD x236.toNat D50).1, ((x234.getD x236.toNat D50).2.1, ((x234.getD x236.toNat D50).2.2.1, ((x234.getD x236.toNat D50).2.2.2.1, ((x234.getD x236.toNat D50).2.2.2.2.1, (true, (x234.getD x236.toNat D50).2.2.2.2.2.2))))))).getD x236.toNat D50).2.2.2.2.2.1, ((x234.set x236.toNat ((x234.getD x236.toNat D50).1, ((x234.getD x236.toNat D50).2.1, ((x234.getD x236.toNat D50).2.2.1, ((x234.getD x236.toNat D50).2.2.2.1, ((x234.getD x236.toNat D50).2.2.2.2.1, (true, (x234.getD x236.toNat D50).2.2.2.2.2.2))))))).getD x236.toNat D50).2.2.2.2.2.2))))))) = (x234.set x236.toNat ((x234.getD x236.toNat D50).1, ((x234.getD x236.toNat D50).2.1, ((x234.getD x236.toNat D50).2.2.1, ((x234.getD x236.toNat D50).2.2.2.1, (x235, (true, (x234.getD x236.toNat D50).2.2.2.2.2.2))))))) from set_upd x234 x236.toNat ((x234.getD x236.toNat D50).1, ((x234.getD x236.toNat D50).2.1, ((x234.getD x236.toNat D50).2.2.1, ((x234.getD x236.toNat D50).2.2.2.1, ((x234.getD x236.toNat D50).2.2.2.2.1, (true, (x234.getD x236.toNat D50).2.2.2.2.2.2)))))) D50 (fun z => (z.1, (z.2.1, (z.2.2.1, (z.2.2.2.1, (x235, (z.2.2.2.2.2.1, z.2.2.2.2.2.2))))))) (by first | (simp; done) | simpa using g334)]
        refine sN K [0, 5, 6, 7, 65536] [0, 1] ⟨[(0, .lf (.ptr 0 0 0 0)), (5, hh 1), (6, I x235), (7, I x236), (65536, .lf (.ptr 0 0 0 0))], [bx (lv Y84 y330.1) 85, ar 0 Y50 (x234.set x236.toNat ((x234.getD x236.toNat D50).1, ((x234.getD x236.toNat D50).2.1, ((x234.getD x236.toNat D50).2.2.1, ((x234.getD x236.toNat D50).2.2.2.1, (x235, (true, (x234.getD x236.toNat D50).2.2.2.2.2.2))))))) .dp]⟩ (tn 0) ?_
        refine nE K (tn 3) ?_
        exact arv [.ren [0, 5, 6, 7, 65536] [0, 1]] ⟨y330.1.1, y330.1.2.1, y330.1.2.2, (x234.set x236.toNat ((x234.getD x236.toNat D50).1, ((x234.getD x236.toNat D50).2.1, ((x234.getD x236.toNat D50).2.2.1, ((x234.getD x236.toNat D50).2.2.2.1, (x235, (true, (x234.getD x236.toNat D50).2.2.2.2.2.2))))))), (wr (x235 + (1 : Int))), rfl, h⟩
       refine VW.skip ?_
       exact arv [.ren [0, 5, 6, 7, 65536] [0, 1]] ⟨y330.1.1, y330.1.2.1, y330.1.2.2, x234, x235, rfl, h⟩
      refine nN K (tn 3) ?_
      refine VW.cond (b := false) (by kernel_rfl) (fun h' => nomatch h') (fun _ => ?_)
      refine VW.skip ?_
      exact arv [.ren [0, 5, 6, 7, 65536] [0, 1]] ⟨x231, x232, x233, x234, x235, rfl, h⟩
     obtain⟨g335,h⟩:=gS h
     obtain⟨g336,h⟩:=gS h
     refine nG K 16 (pu 10 (an g335 (pu 1 (an g336 (tn 3))))) ?_
     refine spC 39 h ?_ ?_<;>intro h
     ·refine nG K 1 (tn 1) <| VO.on (j := 22) (want := true) (d := 39) (b := true) rfl rfl rfl (by kernel_rfl) rfl ?_
      obtain⟨y337,hy,h⟩:=aS h
      refine VO.callM [0] [.r, .t (.int .i64)] (d := some 41) (by kernel_rfl) (by kernel_rfl) (ok34 N _ _ hy) (by kernel_rfl) <| nN K (tn 1) ?_
      refine cnd h ?_ ?_<;>intro h
      ·obtain⟨g338,h⟩:=gS h
       obtain⟨g339,h⟩:=gS h
       refine nR K (pu 2 (an g338 (pu 1 (an g339 (tn 0))))) <| sq <| VW.region ?_
       obtain⟨g340,h⟩:=gS h
       obtain⟨g341,h⟩:=gS h
       refine sG K 6 [0, 5, 6, 7, 65536] [0, 1] ⟨[(0, .lf (.ptr 0 0 0 0)), (5, hh 1), (6, I x235), (7, I x236), (65536, .lf (.ptr 0 0 0 0))], [bx (lv Y84 y337.1) 85, ar 0 Y50 ((x234.set x236.toNat ((x234.getD x236.toNat D50).1, ((x234.getD x236.toNat D50).2.1, ((x234.getD x236.toNat D50).2.2.1, ((x234.getD x236.toNat D50).2.2.2.1, ((x234.getD x236.toNat D50).2.2.2.2.1, (true, (x234.getD x236.toNat D50).2.2.2.2.2.2))))))).set x236.toNat (((x234.set x236.toNat ((x234.getD x236.toNat D50).1, ((x234.getD x236.toNat D50).2.1, ((x234.getD x236.toNat D50).2.2.1, ((x234.getD x236.toNat D50).2.2.2.1, ((x234.getD x236.toNat D50).2.2.2.2.1, (true, (x234.getD x236.toNat D50).2.2.2.2.2.2))))))).getD x236.toNat D50).1, (((x234.set x236.toNat ((x234.getD x236.toNat D50).1, ((x234.getD x236.toNat D50).2.1, ((x234.getD x236.toNat D50).2.2.1, ((x234.getD x236.toNat D50).2.2.2.1, ((x234.getD x236.toNat D50).2.2.2.2.1, (true, (x234.getD x236.toNat D50).2.2.2.2.2.2))))))).getD x236.toNat D50).2.1, (((x234.set x236.toNat ((x234.getD x236.toNat D50).1, ((x234.getD x236.toNat D50).2.1, ((x234.getD x236.toNat D50).2.2.1, ((x234.getD x236.toNat D50).2.2.2.1, ((x234.getD x236.toNat D50).2.2.2.2.1, (true, (x234.getD x236.toNat D50).2.2.2.2.2.2))))))).getD x236.toNat D50).2.2.1, (((x234.set x236.toNat ((x234.getD x236.toNat D50).1, ((x234.getD x236.toNat D50).2.1, ((x234.getD x236.toNat D50).2.2.1, ((x234.getD x236.toNat D50).2.2.2.1, ((x234.getD x236.toNat D50).2.2.2.2.1, (true, (x234.getD x236.toNat D50).2.2.2.2.2.2))))))).getD x236.toNat D50).2.2.2.1, (x235, (((x234.set x236.toNat ((x234.getD x236.toNat D50).1, ((x234.getD x236.toNat D50).2.1, ((x234.getD x236.toNat D50).2.2.1, ((x234.getD x236.toNat D50).2.2.2.1, ((x234.getD x236.toNat D50).2.2.2.2.1, (true, (x234.getD x236.toNat D50).2.2.2.2.2.2))))))).getD x236.toNat D50).2.2.2.2.2.1, ((x234.set x236.toNat ((x234.getD x236.toNat D50).1, ((x234.getD x236.toNat D50).2.1, ((x234.getD x236.toNat D50).2.2.1, ((x234.getD x236.toNat D50).2.2.2.1, ((x234.getD x236.toNat D50).2.2.2.2.1, (true, (x234.getD x236.toNat D50).2.2.2.2.2.2))))))).getD x236.toNat D50).2.2.2.2.2.2))))))) .dp]⟩ (pu 3 (an g340 (pu 1 (an g341 (tn 0))))) ?_
       rw [show ((x234.set x236.toNat ((x234.getD x236.toNat D50).1, ((x234.getD x236.toNat D50).2.1, ((x234.getD x236.toNat D50).2.2.1, ((x234.getD x236.toNat D50).2.2.2.1, ((x234.getD x236.toNat D50).2.2.2.2.1, (true, (x234.getD x236.toNat D50).2.2.2.2.2.2))))))).set x236.toNat (((x234.set x236.toNat ((x234.getD x236.toNat D50).1, ((x234.getD x236.toNat D50).2.1, ((x234.getD x236.toNat D50).2.2.1, ((x234.getD x236.toNat D50).2.2.2.1, ((x234.getD x236.toNat D50).2.2.2.2.1, (true, (x234.getD x236.toNat D50).2.2.2.2.2.2))))))).getD x236.toNat D50).1, (((x234.set x236.toNat ((x234.getD x236.toNat D50).1, ((x234.getD x236.toNat D50).2.1, ((x234.getD x236.toNat D50).2.2.1, ((x234.getD x236.toNat D50).2.2.2.1, ((x234.getD x236.toNat D50).2.2.2.2.1, (true, (x234.getD x236.toNat D50).2.2.2.2.2.2))))))).getD x236.toNat D50).2.1, (((x234.set x236.toNat ((x234.getD x236.toNat D50).1, ((x234.getD x236.toNat D50).2.1, ((x234.getD x236.toNat D50).2.2.1, ((x234.getD x236.toNat D50).2.2.2.1, ((x234.getD x236.toNat D50).2.2.2.2.1, (true, (x234.getD x236.toNat D50).2.2.2.2.2.2))))))).getD x236.toNat D50).2.2.1, (((x234.set x236.toNat ((x234.getD x236.toNat D50).1, ((x234.getD x236.toNat D50).2.1, ((x234.getD x236.toNat D50).2.2.1, ((x234.getD x236.toNat D50).2.2.2.1, ((x234.getD x236.toNat D50).2.2.2.2.1, (true, (x234.getD x236.toNat D50).2.2.2.2.2.2))))))).getD x236.toNat D50).2.2.2.1, (x235, (((x234.set x236.toNat ((x234.getD x236.toNat D50).1, ((x234.getD x236.toNat D50).2.1, ((x234.getD x236.toNat D50).2.2.1, ((x234.getD x236.toNat D50).2.2.2.1, ((x234.getD x236.toNat D50).2.2.2.2.1, (true, (x234.getD x236.toNat D50).2.2.2.2.2.2))))))).getD x236.toNat D50).2.2.2.2.2.1, ((x234.set x236.toNat ((x234.getD x236.toNat D50).1, ((x234.getD x236.toNat D50).2.1, ((x234.getD x236.toNat D50).2.2.1, ((x234.getD x236.toNat D50).2.2.2.1, ((x234.getD x236.toNat D50).2.2.2.2.1, (true, (x234.getD x236.toNat D50).2.2.2.2.2.2))))))).getD x236.toNat D50).2.2.2.2.2.2))))))) = (x234.set x236.toNat ((x234.getD x236.toNat D50).1, ((x234.getD x236.toNat D50).2.1, ((x234.getD x236.toNat D50).2.2.1, ((x234.getD x236.toNat D50).2.2.2.1, (x235, (true, (x234.getD x236.toNat D50).2.2.2.2.2.2))))))) from set_upd x234 x236.toNat ((x234.getD x236.toNat D50).1, ((x234.getD x236.toNat D50).2.1, ((x234.getD x236.toNat D50).2.2.1, ((x234.getD x236.toNat D50).2.2.2.1, ((x234.getD x236.toNat D50).2.2.2.2.1, (true, (x234.getD x236.toNat D50).2.2.2.2.2.2)))))) D50 (fun z => (z.1, (z.2.1, (z.2.2.1, (z.2.2.2.1, (x235, (z.2.2.2.2.2.1, z.2.2.2.2.2.2))))))) (by first | (simp; done) | simpa using g341)]
       refine sN K [0, 5, 6, 7, 65536] [0, 1] ⟨[(0, .lf (.ptr 0 0 0 0)), (5, hh 1), (6, I x235), (7, I x236), (65536, .lf (.ptr 0 0 0 0))], [bx (lv Y84 y337.1) 85, ar 0 Y50 (x234.set x236.toNat ((x234.getD x236.toNat D50).1, ((x234.getD x236.toNat D50).2.1, ((x234.getD x236.toNat D50).2.2.1, ((x234.getD x236.toNat D50).2.2.2.1, (x235, (true, (x234.getD x236.toNat D50).2.2.2.2.2.2))))))) .dp]⟩ (tn 0) ?_
       refine nE K (tn 3) ?_
       exact arv [.ren [0, 5, 6, 7, 65536] [0, 1]] ⟨y337.1.1, y337.1.2.1, y337.1.2.2, (x234.set x236.toNat ((x234.getD x236.toNat D50).1, ((x234.getD x236.toNat D50).2.1, ((x234.getD x236.toNat D50).2.2.1, ((x234.getD x236.toNat D50).2.2.2.1, (x235, (true, (x234.getD x236.toNat D50).2.2.2.2.2.2))))))), (wr (x235 + (1 : Int))), rfl, h⟩
      refine VW.skip ?_
      exact arv [.ren [0, 5, 6, 7, 65536] [0, 1]] ⟨y337.1.1, y337.1.2.1, y337.1.2.2, x234, x235, rfl, h⟩
     refine nN K (tn 3) ?_
     refine VW.cond (b := false) (by kernel_rfl) (fun h' => nomatch h') (fun _ => ?_)
     refine VW.skip ?_
     exact arv [.ren [0, 5, 6, 7, 65536] [0, 1]] ⟨x231, x232, x233, x234, x235, rfl, h⟩
    rintro s ⟨x313, x314, x315, x316, x317, rfl, h⟩
    unfold F35_j1 at h
    refine nE K (tn 3) ?_
    exact aro [.ren [0, 5, 6, 7, 65536] [0, 1]] ⟨x313, x314, x315, x316, x317, (wr (x236 + (1 : Int))), rfl, h⟩
   refine VW.exit ?_
   exact arv [.ren [0, 5, 65536] [0, 1]] ⟨x231, x232, x233, x234, rfl, h⟩
 rintro s ⟨x169, x170, x171, x172, rfl, h⟩
 unfold F35_j0 at h
 refine sq <| VW.region <| nG K 2 (tn 2) ?_
 obtain⟨y173,hy,h⟩:=aS h
 refine VO.callM [0, 1] [.r, .t (.sl Y50)] (d := some 56) (by kernel_rfl) (by kernel_rfl) (ok60 N _ _ hy) (by kernel_rfl) <| nN K (tn 1) ?_
 replace h := Option.some.inj h
 subst h
 refine VW.ghl [.ren [4, 65536] [0, 2]] (VW.ret ?_)
 exact ⟨[some 1], by kernel_rfl, by kernel_rfl, by kernel_rfl⟩
def F36_j0 (N : Nat) (x45 : (List Z50)) (x46 : (List Int)) (x47 : Int) (x48 : Int) : Option (Z84 × (List Z50)) :=
  some ((x46, (x47, x48)), x45)
def F36_j1 (N : Nat) (x69 : (List Z50)) (x70 : (List Int)) (x71 : Int) (x72 : Int) : Option (Z84 × (List Z50)) :=
  gd (x69.length + ([((0 : Int), ((⟨#[116, 49]⟩ : ByteArray), ((0 : Int), ((0 : Int), ((0 : Int), (false, []))))))] : List Z50).length ≤ lim Y50) (F36_j0 N (x69 ++ ([((0 : Int), ((⟨#[116, 49]⟩ : ByteArray), ((0 : Int), ((0 : Int), ((0 : Int), (false, []))))))] : List Z50)) x70 x71 x72)
def F36_l0_b (N : Nat) (nx89 : (List Z50) → Int → Int → (List Int) → Int → Int → Option (Z84 × (List Z50))) (x81 : (List Z50)) (x82 : Int) (x83 : Int) (x84 : (List Int)) (x85 : Int) (x86 : Int) : Option (Z84 × (List Z50)) :=
  cond (decide (x83 < x82)) (gd (x81.length + ([((7 : Int), (ByteArray.empty, ((0 : Int), ((0 : Int), ((0 : Int), (false, []))))))] : List Z50).length ≤ lim Y50) (nx89 (x81 ++ ([((7 : Int), (ByteArray.empty, ((0 : Int), ((0 : Int), ((0 : Int), (false, []))))))] : List Z50)) x82 (IntKind.i64.wrap (x83 + (1 : Int))) x84 x85 x86)) (F36_j1 N x81 x84 x85 x86)
def F36_l0 (N : Nat) := loopF (F36_l0_b N) (fun _ _ _ _ _ _ => none)
theorem F36_l0_s N {k} (hk : 0 < k) x81 x82 x83 x84 x85 x86 : F36_l0 N k x81 x82 x83 x84 x85 x86 = F36_l0_b N (F36_l0 N (k - 1)) x81 x82 x83 x84 x85 x86 := by cases k;cases hk;rfl
def F36 (N : Nat) (a0 : Z84) (a1 : (List Int)) : Option (Z84 × (List Z50)) :=
  andO (F59 N a0 a1) fun y1 => andO (F60 N y1.1 y1.2) fun y2 => andO (F34 N y2.1 (30 : Int)) fun y50 => cond y50.2 (andO (F52 N y50.1 (2 : Int)) fun y51 => F36_l0 N N ([]) (IntKind.i64.wrap ((9 : Int) + y51.2)) (0 : Int) y51.1.1 y51.1.2.1 y51.1.2.2) (F36_j0 N y2.2 y50.1.1 y50.1.2.1 y50.1.2.2)
theorem ok36 N a0 a1 {r} (h : F36 N a0 a1 = some r) : ConM prog 36 [bx (lv Y84 a0) 85] [.lf (.ptr 0 0 0 0), Vv (.sl (.int .u8)) a1] [.lf (.own Y50 r.2 .tp)] [bx (lv Y84 r.1) 85] := by
 refine ⟨enters_of func36 rfl (by decide), HM.intro [.lf (.own Y50 .tp)] K func36 rfl (Nat.le_of_ble_eq_true rfl) (Nat.le_of_ble_eq_true rfl) fun w0 E0 ht => ?_⟩
 unfold F36 at h
 show VW _ _ _ _ _ (retM _ _ _ _ _) _
 refine nR K (tn 1) <| sq <| VW.region <| nG K 3 (tn 3) ?_
 obtain⟨y1,hy,h⟩:=aS h
 refine VO.callM [0] [.r, .t (.sl (.int .u8))] (d := some 11) (by kernel_rfl) (by kernel_rfl) (ok59 N _ _ hy) (by kernel_rfl) ?_
 obtain⟨y2,hy,h⟩:=aS h
 refine VO.callM [0, 1] [.r, .t (.sl Y50)] (d := some 12) (by kernel_rfl) (by kernel_rfl) (ok60 N _ _ hy) (by kernel_rfl) <| nN K (tn 1) ?_
 refine VW.join (fun s => ∃ x45 x46 x47 x48, s = ⟨[(5, hh 0), (65536, .lf (.ptr 1 0 0 0))], [ar 0 Y50 x45 .tp, bx [.v (.sl (.int .u8)) x46, zi x47, zi x48] 85]⟩ ∧ F36_j0 N x45 x46 x47 x48 = some r) ?_ ?_
 ·refine sq <| VW.region <| nG K 1 (tn 1) ?_
  obtain⟨y50,hy,h⟩:=aS h
  refine VO.callM [0] [.r, .t (.int .i64)] (d := some 14) (by kernel_rfl) (by kernel_rfl) (ok34 N _ _ hy) (by kernel_rfl) <| nN K (tn 0) ?_
  refine cnd h ?_ ?_<;>intro h
  ·refine sq <| VW.region <| nG K 1 (tn 1) ?_
   obtain⟨y51,hy,h⟩:=aS h
   refine VO.callM [0] [.r, .t (.int .i64)] (d := some 16) (by kernel_rfl) (by kernel_rfl) (ok52 N _ _ hy) (by kernel_rfl) <| nN K (tn 2) <| nR K (tn 1) ?_
   refine VW.join (fun s => ∃ x69 x70 x71 x72, s = ⟨[(5, hh 0), (65536, .lf (.ptr 1 0 0 0))], [ar 0 Y50 x69 .dp, bx [.v (.sl (.int .u8)) x70, zi x71, zi x72] 85]⟩ ∧ F36_j1 N x69 x70 x71 x72 = some r) ?_ ?_
   ·refine nR K (tn 1) <| VW.block <| lop (fun k s => ∃ x81 x82 x83 x84 x85 x86, s = ⟨[(5, hh 0), (6, I x82), (7, I x83), (65536, .lf (.ptr 1 0 0 0))], [ar 0 Y50 x81 .dp, bx [.v (.sl (.int .u8)) x84, zi x85, zi x86] 85]⟩ ∧ F36_l0 N k x81 x82 x83 x84 x85 x86 = some r) N [.nilS 5 Y50 .dp, .ren [5, 6, 7, 65536] [3, 0]] ⟨[], (wr ((9 : Int) + y51.2)), (0 : Int), y51.1.1, y51.1.2.1, y51.1.2.2, rfl, h⟩ ?_
    rintro k89 s ⟨x81, x82, x83, x84, x85, x86, rfl, h⟩
    cases k89 with
    | zero => cases show none = some r from h
    | succ k89 =>
     replace h : F36_l0_b N (F36_l0 N k89) x81 x82 x83 x84 x85 x86 = some r := h
     unfold F36_l0_b at h
     refine sq <| nR K (tn 3) ?_
     refine cnd h ?_ ?_<;>intro h
     ·refine VW.skip <| sq <| VW.block <| VW.region <| nG K 2 (tn 2) <| VO.litA (d := 25) (v := hh 2) (H' := [ar 0 Y50 x81 .dp, bx [.v (.sl (.int .u8)) x84, zi x85, zi x86] 85, ar 0 Y50 ([((7 : Int), (ByteArray.empty, ((0 : Int), ((0 : Int), ((0 : Int), (false, []))))))] : List Z50) .dp]) K (by kernel_rfl) ?_
      obtain⟨g91,h⟩:=gS h
      refine VO.appY (d := 26) (φ := x81.length + ([((7 : Int), (ByteArray.empty, ((0 : Int), ((0 : Int), ((0 : Int), (false, []))))))] : List Z50).length ≤ lim Y50) (v := .lf (.hd 0 1 none)) (H' := [ar 1 Y50 (x81 ++ ([((7 : Int), (ByteArray.empty, ((0 : Int), ((0 : Int), ((0 : Int), (false, []))))))] : List Z50)) .dp, bx [.v (.sl (.int .u8)) x84, zi x85, zi x86] 85, none]) K (by kernel_rfl) g91 ?_
      refine nN K (tn 1) <| nE K (tn 3) ?_
      exact aro [.ren [5, 6, 7, 65536] [0, 1]] ⟨(x81 ++ ([((7 : Int), (ByteArray.empty, ((0 : Int), ((0 : Int), ((0 : Int), (false, []))))))] : List Z50)), x82, (wr (x83 + (1 : Int))), x84, x85, x86, rfl, h⟩
     refine VW.exit ?_
     exact arv [.ren [5, 65536] [0, 1]] ⟨x81, x84, x85, x86, rfl, h⟩
   rintro s ⟨x69, x70, x71, x72, rfl, h⟩
   unfold F36_j1 at h
   refine VW.region <| nG K 2 (tn 2) <| VO.litA (d := 29) (v := hh 2) (H' := [ar 0 Y50 x69 .dp, bx [.v (.sl (.int .u8)) x70, zi x71, zi x72] 85, ar 0 Y50 ([((0 : Int), ((⟨#[116, 49]⟩ : ByteArray), ((0 : Int), ((0 : Int), ((0 : Int), (false, []))))))] : List Z50) .dp]) K (by kernel_rfl) ?_
   obtain⟨g73,h⟩:=gS h
   refine VO.appY (d := 30) (φ := x69.length + ([((0 : Int), ((⟨#[116, 49]⟩ : ByteArray), ((0 : Int), ((0 : Int), ((0 : Int), (false, []))))))] : List Z50).length ≤ lim Y50) (v := .lf (.hd 0 1 none)) (H' := [ar 1 Y50 (x69 ++ ([((0 : Int), ((⟨#[116, 49]⟩ : ByteArray), ((0 : Int), ((0 : Int), ((0 : Int), (false, []))))))] : List Z50)) .dp, bx [.v (.sl (.int .u8)) x70, zi x71, zi x72] 85, none]) K (by kernel_rfl) g73 ?_
   refine nN K (tn 1) ?_
   exact arv [.wk 0, .ren [5, 65536] [0, 1]] ⟨(x69 ++ ([((0 : Int), ((⟨#[116, 49]⟩ : ByteArray), ((0 : Int), ((0 : Int), ((0 : Int), (false, []))))))] : List Z50)), x70, x71, x72, rfl, h⟩
  refine VW.skip ?_
  exact arv [.ren [5, 65536] [2, 0]] ⟨y2.2, y50.1.1, y50.1.2.1, y50.1.2.2, rfl, h⟩
 rintro s ⟨x45, x46, x47, x48, rfl, h⟩
 unfold F36_j0 at h
 refine nR K (tn 2) ?_
 replace h := Option.some.inj h
 subst h
 refine VW.ghl [.ren [4, 65536] [1, 0]] (VW.ret ?_)
 exact ⟨[some 1], by kernel_rfl, by kernel_rfl, by kernel_rfl⟩
def F6 (N : Nat) (a0 : (List Int)) : Option ((List Z50)) :=
  andO (F33 N a0) fun y1 => andO (F34 N y1 (4 : Int)) fun y4 => cond y4.2 (andO (F35 N y4.1 a0) fun y5 => some y5.2) (andO (F36 N y4.1 a0) fun y6 => some y6.2)
theorem ok6 N a0 {r} (h : F6 N a0 = some r) : Con prog 6 [Vv (.sl (.int .u8)) a0] [.lf (.own Y50 r .tp)] := by
 refine ctr [.lf (.own Y50 .tp)] K func6 rfl fun w0 E0 ht => ?_
 unfold F6 at h
 show VW _ _ _ _ _ (retQ _ _ _ _) _
 refine nR K (tn 1) <| sq <| VW.region <| nG K 1 (tn 1) ?_
 obtain⟨y1,hy,h⟩:=aS h
 refine VO.callB [.t (.sl (.int .u8))] (d := 5) (by kernel_rfl) (ok33 N _ hy) <| nN K (tn 1) <| sq <| sq <| VW.region <| nG K 1 (tn 1) ?_
 obtain⟨y4,hy,h⟩:=aS h
 refine VO.callM [0] [.r, .t (.int .i64)] (d := some 7) (by kernel_rfl) (by kernel_rfl) (ok34 N _ _ hy) (by kernel_rfl) <| nN K (tn 0) ?_
 refine cnd h ?_ ?_<;>intro h
 ·refine sq <| VW.region <| nG K 2 (tn 2) ?_
  obtain⟨y5,hy,h⟩:=aS h
  refine VO.callM [0] [.r, .t (.sl (.int .u8))] (d := some 10) (by kernel_rfl) (by kernel_rfl) (ok35 N _ _ hy) (by kernel_rfl) <| nN K (tn 1) ?_
  cases h; exact VW.ret (rt [some 1])
 refine VW.skip <| sq <| VW.region <| nG K 2 (tn 2) ?_
 obtain⟨y6,hy,h⟩:=aS h
 refine VO.callM [0] [.r, .t (.sl (.int .u8))] (d := some 13) (by kernel_rfl) (by kernel_rfl) (ok36 N _ _ hy) (by kernel_rfl) <| nN K (tn 1) ?_
 cases h; exact VW.ret (rt [some 1])
def F96 (N : Nat) (a0 : Int) (a1 : Int) (a2 : Int) : Option (Bool) :=
  cond (decide (a1 ≤ a0)) (some (decide (a0 ≤ a2))) (some false)
theorem ok96 N a0 a1 a2 {r} (h : F96 N a0 a1 a2 = some r) : Con prog 96 [I a0, I a1, I a2] [.lf (.v .bool r)] := by
 refine ctr [.lf (.v .bool)] K func96 rfl fun w0 E0 ht => ?_
 unfold F96 at h
 show VW _ _ _ _ _ (retQ _ _ _ _) _
 refine nR K (tn 1) <| sq <| VW.region <| nG K 4 (tn 4) ?_
 refine spC 10 h ?_ ?_<;>intro h
 ·refine nN K (tn 5) ?_
  cases h; exact VW.ret (rt [])
 refine nN K (tn 5) ?_
 cases h; exact VW.ret (rt [])
def F153 (N : Nat) (a0 : Int) : Option (Bool) :=
  andO (F96 N a0 (-1000000 : Int) (1000000 : Int)) fun y1 => some y1
theorem ok153 N a0 {r} (h : F153 N a0 = some r) : Con prog 153 [I a0] [.lf (.v .bool r)] := by
 refine ctr [.lf (.v .bool)] K func153 rfl fun w0 E0 ht => ?_
 unfold F153 at h
 show VW _ _ _ _ _ (retQ _ _ _ _) _
 refine nR K (tn 1) <| sq <| VW.region <| nG K 1 (tn 1) ?_
 obtain⟨y1,hy,h⟩:=aS h
 refine clc false [.t (.int .i64), .t (.int .i64), .t (.int .i64)] [] (some 4) K (ok96 N _ _ _ hy) <| nN K (tn 1) ?_
 cases h; exact VW.ret (rt [])
def F160_j0 (N : Nat) : Option (Bool) :=
  some true
def F160_j1 (N : Nat) (nx74 : Int → Option (Bool)) (x60 : Int) : Option (Bool) :=
  nx74 (IntKind.i64.wrap (x60 + (1 : Int)))
def F160_l0_b (N : Nat) (a0 : ByteArray) (nx74 : Int → Option (Bool)) (x60 : Int) : Option (Bool) :=
  cond (decide (x60 < (a0.size : Int))) (gd (InR x60 a0.size) (cond (decide (((a0.data.getD x60.toNat 0).toNat : Int) < (97 : Int))) (gd (InR x60 a0.size) (cond (decide (((a0.data.getD x60.toNat 0).toNat : Int) < (48 : Int))) (some false) (gd (InR x60 a0.size) (cond (decide (((a0.data.getD x60.toNat 0).toNat : Int) > (57 : Int))) (some false) (F160_j1 N nx74 x60))))) (gd (InR x60 a0.size) (cond (decide (((a0.data.getD x60.toNat 0).toNat : Int) > (122 : Int))) (gd (InR x60 a0.size) (cond (decide (((a0.data.getD x60.toNat 0).toNat : Int) < (48 : Int))) (some false) (gd (InR x60 a0.size) (cond (decide (((a0.data.getD x60.toNat 0).toNat : Int) > (57 : Int))) (some false) (F160_j1 N nx74 x60))))) (F160_j1 N nx74 x60))))) (F160_j0 N)
def F160_l0 (N : Nat) (a0 : ByteArray) := loopF (F160_l0_b N a0) (fun _ => none)
theorem F160_l0_s N a0 {k} (hk : 0 < k) x60 : F160_l0 N a0 k x60 = F160_l0_b N a0 (F160_l0 N a0 (k - 1)) x60 := by cases k;cases hk;rfl
def F160 (N : Nat) (a0 : ByteArray) : Option (Bool) :=
  andO (F96 N (a0.size : Int) (1 : Int) (12 : Int)) fun y3 => cond (!y3) (some false) (gd (InR (0 : Int) a0.size) (cond (decide (((a0.data.getD (0 : Int).toNat 0).toNat : Int) < (97 : Int))) (some false) (F160_l0 N a0 N (0 : Int))))
theorem ok160 N a0 {r} (h : F160 N a0 = some r) : Con prog 160 [S a0] [.lf (.v .bool r)] := by
 refine ctr [.lf (.v .bool)] K func160 rfl fun w0 E0 ht => ?_
 unfold F160 at h
 show VW _ _ _ _ _ (retQ _ _ _ _) _
 refine nR K (tn 1) <| sq <| sq <| VW.region <| nG K 2 (tn 2) ?_
 obtain⟨y3,hy,h⟩:=aS h
 refine clc false [.t (.int .i64), .t (.int .i64), .t (.int .i64)] [] (some 6) K (ok96 N _ _ _ hy) <| nG K 2 (tn 2) ?_
 refine spC 8 h ?_ ?_<;>intro h
 ·refine nN K (tn 4) ?_
  refine VW.cond (b := true) (by kernel_rfl) (fun _ => ?_) (fun h' => nomatch h')
  refine nR K (tn 1) ?_
  cases h; exact VW.ret (rt [])
 obtain⟨g4,h⟩:=gS h
 refine nN K (pu 1 (an g4 (tn 2))) ?_
 refine cnd h ?_ ?_<;>intro h
 ·refine nR K (tn 1) ?_
  cases h; exact VW.ret (rt [])
 refine VW.skip ?_
 refine VW.join (fun s => s = ⟨[], []⟩ ∧ F160_j0 N = some r) ?_ ?_
 ·refine nR K (tn 1) <| VW.block <| lop (fun k s => ∃ x60, s = ⟨[(0, S a0), (3, I x60)], []⟩ ∧ F160_l0 N a0 k x60 = some r) N [.ren [0, 3] []] ⟨(0 : Int), rfl, h⟩ ?_
  rintro k74 s ⟨x60, rfl, h⟩
  cases k74 with
  | zero => cases show none = some r from h
  | succ k74 =>
   replace h : F160_l0_b N a0 (F160_l0 N a0 k74) x60 = some r := h
   unfold F160_l0_b at h
   refine sq <| nR K (tn 4) ?_
   refine cnd h ?_ ?_<;>intro h
   ·refine VW.skip ?_
    refine VW.join (fun s => s = ⟨[(0, S a0), (3, I x60)], []⟩ ∧ F160_j1 N (F160_l0 N a0 k74) x60 = some r) ?_ ?_
    ·refine VW.block <| sq <| VW.region ?_
     obtain⟨g82,h⟩:=gS h
     refine nG K 5 (pu 2 (an g82 (tn 2))) ?_
     refine spC 23 h ?_ ?_<;>intro h
     ·obtain⟨g83,h⟩:=gS h
      refine nG K 11 (pu 8 (an g83 (tn 2))) ?_
      refine spC 34 h ?_ ?_<;>intro h
      ·refine nN K (tn 6) ?_
       refine VW.cond (b := true) (by kernel_rfl) (fun _ => ?_) (fun h' => nomatch h')
       refine nR K (tn 1) ?_
       cases h; exact VW.ret (rt [])
      obtain⟨g84,h⟩:=gS h
      refine nN K (pu 2 (an g84 (tn 3))) ?_
      refine cnd h ?_ ?_<;>intro h
      ·refine nR K (tn 1) ?_
       cases h; exact VW.ret (rt [])
      refine VW.skip ?_
      exact arv [.ren [0, 3] []] ⟨rfl, h⟩
     obtain⟨g85,h⟩:=gS h
     refine nG K 6 (pu 2 (an g85 (tn 3))) ?_
     refine spC 29 h ?_ ?_<;>intro h
     ·obtain⟨g86,h⟩:=gS h
      refine nG K 5 (pu 2 (an g86 (tn 2))) ?_
      refine spC 34 h ?_ ?_<;>intro h
      ·refine nN K (tn 6) ?_
       refine VW.cond (b := true) (by kernel_rfl) (fun _ => ?_) (fun h' => nomatch h')
       refine nR K (tn 1) ?_
       cases h; exact VW.ret (rt [])
      obtain⟨g87,h⟩:=gS h
      refine nN K (pu 2 (an g87 (tn 3))) ?_
      refine cnd h ?_ ?_<;>intro h
      ·refine nR K (tn 1) ?_
       cases h; exact VW.ret (rt [])
      refine VW.skip ?_
      exact arv [.ren [0, 3] []] ⟨rfl, h⟩
     refine nN K (tn 11) ?_
     refine VW.cond (b := false) (by kernel_rfl) (fun h' => nomatch h') (fun _ => ?_)
     refine VW.skip ?_
     exact arv [.ren [0, 3] []] ⟨rfl, h⟩
    rintro s ⟨rfl, h⟩
    unfold F160_j1 at h
    refine nE K (tn 3) ?_
    exact aro [.ren [0, 3] []] ⟨(wr (x60 + (1 : Int))), rfl, h⟩
   refine VW.exit ?_
   exact arv [.ren [] []] ⟨rfl, h⟩
 rintro s ⟨rfl, h⟩
 unfold F160_j0 at h
 refine nR K (tn 1) ?_
 cases h; exact VW.ret (rt [])
def F161 (N : Nat) (a0 : Int) : Option (Bool) :=
  andO (F96 N a0 (0 : Int) (63 : Int)) fun y1 => some y1
theorem ok161 N a0 {r} (h : F161 N a0 = some r) : Con prog 161 [I a0] [.lf (.v .bool r)] := by
 refine ctr [.lf (.v .bool)] K func161 rfl fun w0 E0 ht => ?_
 unfold F161 at h
 show VW _ _ _ _ _ (retQ _ _ _ _) _
 refine nR K (tn 1) <| sq <| VW.region <| nG K 1 (tn 1) ?_
 obtain⟨y1,hy,h⟩:=aS h
 refine clc false [.t (.int .i64), .t (.int .i64), .t (.int .i64)] [] (some 4) K (ok96 N _ _ _ hy) <| nN K (tn 1) ?_
 cases h; exact VW.ret (rt [])
def F97_j0 (N : Nat) : Option (Bool) :=
  some false
def F97_j1 (N : Nat) (x11 : Int) (x13 : Int) (x14 : Bool) (x15 : (List Int)) : Option (Bool) :=
  andO (F96 N (x15.length : Int) (1 : Int) (6 : Int)) fun y75 => cond y75 (cond (x11 == (0 : Int)) (cond (x13 == (0 : Int)) (some (!x14)) (some false)) (some false)) (some false)
def F97_l0_b (N : Nat) (x11 : Int) (x13 : Int) (x14 : Bool) (x15 : (List Int)) (nx86 : Int → Option (Bool)) (x81 : Int) : Option (Bool) :=
  cond (decide (x81 < (x15.length : Int))) (gd (InR x81 x15.length) (andO (F161 N (x15.getD x81.toNat (Ty.dflt (.int .i64)))) fun y90 => cond (!y90) (some false) (nx86 (IntKind.i64.wrap (x81 + (1 : Int)))))) (F97_j1 N x11 x13 x14 x15)
def F97_l0 (N : Nat) (x11 : Int) (x13 : Int) (x14 : Bool) (x15 : (List Int)) := loopF (F97_l0_b N x11 x13 x14 x15) (fun _ => none)
theorem F97_l0_s N x11 x13 x14 x15 {k} (hk : 0 < k) x81 : F97_l0 N x11 x13 x14 x15 k x81 = F97_l0_b N x11 x13 x14 x15 (F97_l0 N x11 x13 x14 x15 (k - 1)) x81 := by cases k;cases hk;rfl
def F97_j2 (N : Nat) (x11 : Int) (x13 : Int) (x14 : Bool) (x95 : Bool) : Option (Bool) :=
  cond x95 (cond (x11 == (0 : Int)) (cond (x13 == (0 : Int)) (some (!x14)) (some false)) (some false)) (F97_j0 N)
def F97_j3 (N : Nat) (x9 : Int) (x10 : ByteArray) (x11 : Int) (x12 : Int) (x13 : Int) (x14 : Bool) (x15 : (List Int)) : Option (Bool) :=
  cond (x9 == (0 : Int)) (andO (F160 N x10) fun y57 => cond y57 (cond (x11 == (0 : Int)) (cond (x13 == (0 : Int)) (some (!x14)) (some false)) (some false)) (some false)) (cond (x9 == (1 : Int)) (andO (F161 N x11) fun y58 => cond y58 (andO (F96 N x12 (0 : Int) (3 : Int)) fun y59 => cond y59 (andO (F153 N x13) fun y60 => cond y60 (cond (x12 != (3 : Int)) (some true) (cond (x13 == (0 : Int)) (some (!x14)) (some false))) (some false)) (some false)) (some false)) (cond (x9 == (2 : Int)) (F97_l0 N x11 x13 x14 x15 N (0 : Int)) (cond (x9 == (3 : Int)) (andO (F161 N x11) fun y91 => cond y91 (andO (F161 N x13) fun y92 => cond y92 (some (!x14)) (some false)) (some false)) (cond (x9 == (5 : Int)) (andO (F161 N x11) fun y93 => cond y93 (cond (x13 == (0 : Int)) (some (!x14)) (some false)) (some false)) (cond (x9 == (6 : Int)) (cond (x11 == (0 : Int)) (andO (F96 N x13 (0 : Int) (1000000 : Int)) fun y94 => some y94) (some false)) (cond (x9 == (4 : Int)) (F97_j2 N x11 x13 x14 (x9 == (4 : Int))) (F97_j2 N x11 x13 x14 (x9 == (7 : Int)))))))))
def F97 (N : Nat) (a0 : Z50) : Option (Bool) :=
  cond (a0.1 != (0 : Int)) (cond (!(a0.2.1.toList == ByteArray.empty.toList)) (some false) (cond (a0.1 != (2 : Int)) (cond (decide ((a0.2.2.2.2.2.2.length : Int) > (0 : Int))) (some false) (cond (a0.1 != (1 : Int)) (cond (a0.2.2.2.1 != (0 : Int)) (some false) (cond a0.2.2.2.2.2.1 (andO (F96 N a0.2.2.2.2.1 (0 : Int) (39 : Int)) fun y98 => cond (!y98) (some false) (F97_j3 N a0.1 a0.2.1 a0.2.2.1 a0.2.2.2.1 a0.2.2.2.2.1 a0.2.2.2.2.2.1 a0.2.2.2.2.2.2)) (F97_j3 N a0.1 a0.2.1 a0.2.2.1 a0.2.2.2.1 a0.2.2.2.2.1 a0.2.2.2.2.2.1 a0.2.2.2.2.2.2))) (cond a0.2.2.2.2.2.1 (andO (F96 N a0.2.2.2.2.1 (0 : Int) (39 : Int)) fun y99 => cond (!y99) (some false) (F97_j3 N a0.1 a0.2.1 a0.2.2.1 a0.2.2.2.1 a0.2.2.2.2.1 a0.2.2.2.2.2.1 a0.2.2.2.2.2.2)) (F97_j3 N a0.1 a0.2.1 a0.2.2.1 a0.2.2.2.1 a0.2.2.2.2.1 a0.2.2.2.2.2.1 a0.2.2.2.2.2.2)))) (cond (a0.1 != (1 : Int)) (cond (a0.2.2.2.1 != (0 : Int)) (some false) (cond a0.2.2.2.2.2.1 (andO (F96 N a0.2.2.2.2.1 (0 : Int) (39 : Int)) fun y100 => cond (!y100) (some false) (F97_j3 N a0.1 a0.2.1 a0.2.2.1 a0.2.2.2.1 a0.2.2.2.2.1 a0.2.2.2.2.2.1 a0.2.2.2.2.2.2)) (F97_j3 N a0.1 a0.2.1 a0.2.2.1 a0.2.2.2.1 a0.2.2.2.2.1 a0.2.2.2.2.2.1 a0.2.2.2.2.2.2))) (cond a0.2.2.2.2.2.1 (andO (F96 N a0.2.2.2.2.1 (0 : Int) (39 : Int)) fun y101 => cond (!y101) (some false) (F97_j3 N a0.1 a0.2.1 a0.2.2.1 a0.2.2.2.1 a0.2.2.2.2.1 a0.2.2.2.2.2.1 a0.2.2.2.2.2.2)) (F97_j3 N a0.1 a0.2.1 a0.2.2.1 a0.2.2.2.1 a0.2.2.2.2.1 a0.2.2.2.2.2.1 a0.2.2.2.2.2.2))))) (cond (a0.1 != (2 : Int)) (cond (decide ((a0.2.2.2.2.2.2.length : Int) > (0 : Int))) (some false) (cond (a0.1 != (1 : Int)) (cond (a0.2.2.2.1 != (0 : Int)) (some false) (cond a0.2.2.2.2.2.1 (andO (F96 N a0.2.2.2.2.1 (0 : Int) (39 : Int)) fun y102 => cond (!y102) (some false) (F97_j3 N a0.1 a0.2.1 a0.2.2.1 a0.2.2.2.1 a0.2.2.2.2.1 a0.2.2.2.2.2.1 a0.2.2.2.2.2.2)) (F97_j3 N a0.1 a0.2.1 a0.2.2.1 a0.2.2.2.1 a0.2.2.2.2.1 a0.2.2.2.2.2.1 a0.2.2.2.2.2.2))) (cond a0.2.2.2.2.2.1 (andO (F96 N a0.2.2.2.2.1 (0 : Int) (39 : Int)) fun y103 => cond (!y103) (some false) (F97_j3 N a0.1 a0.2.1 a0.2.2.1 a0.2.2.2.1 a0.2.2.2.2.1 a0.2.2.2.2.2.1 a0.2.2.2.2.2.2)) (F97_j3 N a0.1 a0.2.1 a0.2.2.1 a0.2.2.2.1 a0.2.2.2.2.1 a0.2.2.2.2.2.1 a0.2.2.2.2.2.2)))) (cond (a0.1 != (1 : Int)) (cond (a0.2.2.2.1 != (0 : Int)) (some false) (cond a0.2.2.2.2.2.1 (andO (F96 N a0.2.2.2.2.1 (0 : Int) (39 : Int)) fun y104 => cond (!y104) (some false) (F97_j3 N a0.1 a0.2.1 a0.2.2.1 a0.2.2.2.1 a0.2.2.2.2.1 a0.2.2.2.2.2.1 a0.2.2.2.2.2.2)) (F97_j3 N a0.1 a0.2.1 a0.2.2.1 a0.2.2.2.1 a0.2.2.2.2.1 a0.2.2.2.2.2.1 a0.2.2.2.2.2.2))) (cond a0.2.2.2.2.2.1 (andO (F96 N a0.2.2.2.2.1 (0 : Int) (39 : Int)) fun y105 => cond (!y105) (some false) (F97_j3 N a0.1 a0.2.1 a0.2.2.1 a0.2.2.2.1 a0.2.2.2.2.1 a0.2.2.2.2.2.1 a0.2.2.2.2.2.2)) (F97_j3 N a0.1 a0.2.1 a0.2.2.1 a0.2.2.2.1 a0.2.2.2.2.1 a0.2.2.2.2.2.1 a0.2.2.2.2.2.2))))
theorem ok97 N a0 {r} (h : F97 N a0 = some r) : Con prog 97 [.agg (lv Y50 a0)] [.lf (.v .bool r)] := by
 refine ctr [.lf (.v .bool)] K func97 rfl fun w0 E0 ht => ?_
 unfold F97 at h
 show VW _ _ _ _ _ (retQ _ _ _ _) _
 refine nR K (tn 2) ?_
 refine VW.join (fun s => ∃ x9 x10 x11 x12 x13 x14 x15, s = ⟨[(1, .lf (.ptr 0 0 0 0))], [bx [zi x9, zs x10, zi x11, zi x12, zi x13, zb x14, .v (.sl (.int .i64)) x15] 51]⟩ ∧ F97_j3 N x9 x10 x11 x12 x13 x14 x15 = some r) ?_ ?_
 ·refine sq <| VW.region <| nG K 4 (tn 4) ?_
  refine spC 7 h ?_ ?_<;>intro h
  ·refine nG K 5 (tn 5) ?_
   refine spC 12 h ?_ ?_<;>intro h
   ·refine nN K (tn 30) ?_
    refine VW.cond (b := true) (by kernel_rfl) (fun _ => ?_) (fun h' => nomatch h')
    refine nR K (tn 1) ?_
    cases h; exact VW.ret (rt [])
   refine nG K 4 (tn 4) ?_
   refine spC 16 h ?_ ?_<;>intro h
   ·refine nG K 7 (tn 7) ?_
    refine spC 23 h ?_ ?_<;>intro h
    ·refine nN K (tn 19) ?_
     refine VW.cond (b := true) (by kernel_rfl) (fun _ => ?_) (fun h' => nomatch h')
     refine nR K (tn 1) ?_
     cases h; exact VW.ret (rt [])
    refine nG K 4 (tn 4) ?_
    refine spC 27 h ?_ ?_<;>intro h
    ·refine nG K 6 (tn 6) ?_
     refine spC 33 h ?_ ?_<;>intro h
     ·refine nN K (tn 9) ?_
      refine VW.cond (b := true) (by kernel_rfl) (fun _ => ?_) (fun h' => nomatch h')
      refine nR K (tn 1) ?_
      cases h; exact VW.ret (rt [])
     refine nG K 3 (tn 3) ?_
     refine spC 36 h ?_ ?_<;>intro h
     ·refine nG K 2 (tn 2) <| VO.on (j := 32) (want := true) (d := 36) (b := true) rfl rfl rfl (by kernel_rfl) rfl ?_
      obtain⟨y98,hy,h⟩:=aS h
      refine clc false [.t (.int .i64), .t (.int .i64), .t (.int .i64)] [] (some 39) K (ok96 N _ _ _ hy) <| nN K (tn 3) ?_
      refine cnd h ?_ ?_<;>intro h
      ·refine nR K (tn 1) ?_
       cases h; exact VW.ret (rt [])
      refine VW.skip ?_
      exact arv [.ren [1] [0]] ⟨a0.1, a0.2.1, a0.2.2.1, a0.2.2.2.1, a0.2.2.2.2.1, a0.2.2.2.2.2.1, a0.2.2.2.2.2.2, rfl, h⟩
     refine nN K (tn 6) ?_
     refine VW.cond (b := false) (by kernel_rfl) (fun h' => nomatch h') (fun _ => ?_)
     refine VW.skip ?_
     exact arv [.ren [1] [0]] ⟨a0.1, a0.2.1, a0.2.2.1, a0.2.2.2.1, a0.2.2.2.2.1, a0.2.2.2.2.2.1, a0.2.2.2.2.2.2, rfl, h⟩
    refine nG K 9 (tn 9) ?_
    refine spC 36 h ?_ ?_<;>intro h
    ·refine nG K 2 (tn 2) <| VO.on (j := 32) (want := true) (d := 36) (b := true) rfl rfl rfl (by kernel_rfl) rfl ?_
     obtain⟨y99,hy,h⟩:=aS h
     refine clc false [.t (.int .i64), .t (.int .i64), .t (.int .i64)] [] (some 39) K (ok96 N _ _ _ hy) <| nN K (tn 3) ?_
     refine cnd h ?_ ?_<;>intro h
     ·refine nR K (tn 1) ?_
      cases h; exact VW.ret (rt [])
     refine VW.skip ?_
     exact arv [.ren [1] [0]] ⟨a0.1, a0.2.1, a0.2.2.1, a0.2.2.2.1, a0.2.2.2.2.1, a0.2.2.2.2.2.1, a0.2.2.2.2.2.2, rfl, h⟩
    refine nN K (tn 6) ?_
    refine VW.cond (b := false) (by kernel_rfl) (fun h' => nomatch h') (fun _ => ?_)
    refine VW.skip ?_
    exact arv [.ren [1] [0]] ⟨a0.1, a0.2.1, a0.2.2.1, a0.2.2.2.1, a0.2.2.2.2.1, a0.2.2.2.2.2.1, a0.2.2.2.2.2.2, rfl, h⟩
   refine nG K 11 (tn 11) ?_
   refine spC 27 h ?_ ?_<;>intro h
   ·refine nG K 6 (tn 6) ?_
    refine spC 33 h ?_ ?_<;>intro h
    ·refine nN K (tn 9) ?_
     refine VW.cond (b := true) (by kernel_rfl) (fun _ => ?_) (fun h' => nomatch h')
     refine nR K (tn 1) ?_
     cases h; exact VW.ret (rt [])
    refine nG K 3 (tn 3) ?_
    refine spC 36 h ?_ ?_<;>intro h
    ·refine nG K 2 (tn 2) <| VO.on (j := 32) (want := true) (d := 36) (b := true) rfl rfl rfl (by kernel_rfl) rfl ?_
     obtain⟨y100,hy,h⟩:=aS h
     refine clc false [.t (.int .i64), .t (.int .i64), .t (.int .i64)] [] (some 39) K (ok96 N _ _ _ hy) <| nN K (tn 3) ?_
     refine cnd h ?_ ?_<;>intro h
     ·refine nR K (tn 1) ?_
      cases h; exact VW.ret (rt [])
     refine VW.skip ?_
     exact arv [.ren [1] [0]] ⟨a0.1, a0.2.1, a0.2.2.1, a0.2.2.2.1, a0.2.2.2.2.1, a0.2.2.2.2.2.1, a0.2.2.2.2.2.2, rfl, h⟩
    refine nN K (tn 6) ?_
    refine VW.cond (b := false) (by kernel_rfl) (fun h' => nomatch h') (fun _ => ?_)
    refine VW.skip ?_
    exact arv [.ren [1] [0]] ⟨a0.1, a0.2.1, a0.2.2.1, a0.2.2.2.1, a0.2.2.2.2.1, a0.2.2.2.2.2.1, a0.2.2.2.2.2.2, rfl, h⟩
   refine nG K 9 (tn 9) ?_
   refine spC 36 h ?_ ?_<;>intro h
   ·refine nG K 2 (tn 2) <| VO.on (j := 32) (want := true) (d := 36) (b := true) rfl rfl rfl (by kernel_rfl) rfl ?_
    obtain⟨y101,hy,h⟩:=aS h
    refine clc false [.t (.int .i64), .t (.int .i64), .t (.int .i64)] [] (some 39) K (ok96 N _ _ _ hy) <| nN K (tn 3) ?_
    refine cnd h ?_ ?_<;>intro h
    ·refine nR K (tn 1) ?_
     cases h; exact VW.ret (rt [])
    refine VW.skip ?_
    exact arv [.ren [1] [0]] ⟨a0.1, a0.2.1, a0.2.2.1, a0.2.2.2.1, a0.2.2.2.2.1, a0.2.2.2.2.2.1, a0.2.2.2.2.2.2, rfl, h⟩
   refine nN K (tn 6) ?_
   refine VW.cond (b := false) (by kernel_rfl) (fun h' => nomatch h') (fun _ => ?_)
   refine VW.skip ?_
   exact arv [.ren [1] [0]] ⟨a0.1, a0.2.1, a0.2.2.1, a0.2.2.2.1, a0.2.2.2.2.1, a0.2.2.2.2.2.1, a0.2.2.2.2.2.2, rfl, h⟩
  refine nG K 9 (tn 9) ?_
  refine spC 16 h ?_ ?_<;>intro h
  ·refine nG K 7 (tn 7) ?_
   refine spC 23 h ?_ ?_<;>intro h
   ·refine nN K (tn 19) ?_
    refine VW.cond (b := true) (by kernel_rfl) (fun _ => ?_) (fun h' => nomatch h')
    refine nR K (tn 1) ?_
    cases h; exact VW.ret (rt [])
   refine nG K 4 (tn 4) ?_
   refine spC 27 h ?_ ?_<;>intro h
   ·refine nG K 6 (tn 6) ?_
    refine spC 33 h ?_ ?_<;>intro h
    ·refine nN K (tn 9) ?_
     refine VW.cond (b := true) (by kernel_rfl) (fun _ => ?_) (fun h' => nomatch h')
     refine nR K (tn 1) ?_
     cases h; exact VW.ret (rt [])
    refine nG K 3 (tn 3) ?_
    refine spC 36 h ?_ ?_<;>intro h
    ·refine nG K 2 (tn 2) <| VO.on (j := 32) (want := true) (d := 36) (b := true) rfl rfl rfl (by kernel_rfl) rfl ?_
     obtain⟨y102,hy,h⟩:=aS h
     refine clc false [.t (.int .i64), .t (.int .i64), .t (.int .i64)] [] (some 39) K (ok96 N _ _ _ hy) <| nN K (tn 3) ?_
     refine cnd h ?_ ?_<;>intro h
     ·refine nR K (tn 1) ?_
      cases h; exact VW.ret (rt [])
     refine VW.skip ?_
     exact arv [.ren [1] [0]] ⟨a0.1, a0.2.1, a0.2.2.1, a0.2.2.2.1, a0.2.2.2.2.1, a0.2.2.2.2.2.1, a0.2.2.2.2.2.2, rfl, h⟩
    refine nN K (tn 6) ?_
    refine VW.cond (b := false) (by kernel_rfl) (fun h' => nomatch h') (fun _ => ?_)
    refine VW.skip ?_
    exact arv [.ren [1] [0]] ⟨a0.1, a0.2.1, a0.2.2.1, a0.2.2.2.1, a0.2.2.2.2.1, a0.2.2.2.2.2.1, a0.2.2.2.2.2.2, rfl, h⟩
   refine nG K 9 (tn 9) ?_
   refine spC 36 h ?_ ?_<;>intro h
   ·refine nG K 2 (tn 2) <| VO.on (j := 32) (want := true) (d := 36) (b := true) rfl rfl rfl (by kernel_rfl) rfl ?_
    obtain⟨y103,hy,h⟩:=aS h
    refine clc false [.t (.int .i64), .t (.int .i64), .t (.int .i64)] [] (some 39) K (ok96 N _ _ _ hy) <| nN K (tn 3) ?_
    refine cnd h ?_ ?_<;>intro h
    ·refine nR K (tn 1) ?_
     cases h; exact VW.ret (rt [])
    refine VW.skip ?_
    exact arv [.ren [1] [0]] ⟨a0.1, a0.2.1, a0.2.2.1, a0.2.2.2.1, a0.2.2.2.2.1, a0.2.2.2.2.2.1, a0.2.2.2.2.2.2, rfl, h⟩
   refine nN K (tn 6) ?_
   refine VW.cond (b := false) (by kernel_rfl) (fun h' => nomatch h') (fun _ => ?_)
   refine VW.skip ?_
   exact arv [.ren [1] [0]] ⟨a0.1, a0.2.1, a0.2.2.1, a0.2.2.2.1, a0.2.2.2.2.1, a0.2.2.2.2.2.1, a0.2.2.2.2.2.2, rfl, h⟩
  refine nG K 11 (tn 11) ?_
  refine spC 27 h ?_ ?_<;>intro h
  ·refine nG K 6 (tn 6) ?_
   refine spC 33 h ?_ ?_<;>intro h
   ·refine nN K (tn 9) ?_
    refine VW.cond (b := true) (by kernel_rfl) (fun _ => ?_) (fun h' => nomatch h')
    refine nR K (tn 1) ?_
    cases h; exact VW.ret (rt [])
   refine nG K 3 (tn 3) ?_
   refine spC 36 h ?_ ?_<;>intro h
   ·refine nG K 2 (tn 2) <| VO.on (j := 32) (want := true) (d := 36) (b := true) rfl rfl rfl (by kernel_rfl) rfl ?_
    obtain⟨y104,hy,h⟩:=aS h
    refine clc false [.t (.int .i64), .t (.int .i64), .t (.int .i64)] [] (some 39) K (ok96 N _ _ _ hy) <| nN K (tn 3) ?_
    refine cnd h ?_ ?_<;>intro h
    ·refine nR K (tn 1) ?_
     cases h; exact VW.ret (rt [])
    refine VW.skip ?_
    exact arv [.ren [1] [0]] ⟨a0.1, a0.2.1, a0.2.2.1, a0.2.2.2.1, a0.2.2.2.2.1, a0.2.2.2.2.2.1, a0.2.2.2.2.2.2, rfl, h⟩
   refine nN K (tn 6) ?_
   refine VW.cond (b := false) (by kernel_rfl) (fun h' => nomatch h') (fun _ => ?_)
   refine VW.skip ?_
   exact arv [.ren [1] [0]] ⟨a0.1, a0.2.1, a0.2.2.1, a0.2.2.2.1, a0.2.2.2.2.1, a0.2.2.2.2.2.1, a0.2.2.2.2.2.2, rfl, h⟩
  refine nG K 9 (tn 9) ?_
  refine spC 36 h ?_ ?_<;>intro h
  ·refine nG K 2 (tn 2) <| VO.on (j := 32) (want := true) (d := 36) (b := true) rfl rfl rfl (by kernel_rfl) rfl ?_
   obtain⟨y105,hy,h⟩:=aS h
   refine clc false [.t (.int .i64), .t (.int .i64), .t (.int .i64)] [] (some 39) K (ok96 N _ _ _ hy) <| nN K (tn 3) ?_
   refine cnd h ?_ ?_<;>intro h
   ·refine nR K (tn 1) ?_
    cases h; exact VW.ret (rt [])
   refine VW.skip ?_
   exact arv [.ren [1] [0]] ⟨a0.1, a0.2.1, a0.2.2.1, a0.2.2.2.1, a0.2.2.2.2.1, a0.2.2.2.2.2.1, a0.2.2.2.2.2.2, rfl, h⟩
  refine nN K (tn 6) ?_
  refine VW.cond (b := false) (by kernel_rfl) (fun h' => nomatch h') (fun _ => ?_)
  refine VW.skip ?_
  exact arv [.ren [1] [0]] ⟨a0.1, a0.2.1, a0.2.2.1, a0.2.2.2.1, a0.2.2.2.2.1, a0.2.2.2.2.2.1, a0.2.2.2.2.2.2, rfl, h⟩
 rintro s ⟨x9, x10, x11, x12, x13, x14, x15, rfl, h⟩
 unfold F97_j3 at h
 refine VW.join (fun s => s = ⟨[], []⟩ ∧ F97_j0 N = some r) ?_ ?_
 ·refine nR K (tn 2) <| VW.block <| nR K (tn 2) ?_
  refine cnd h ?_ ?_<;>intro h
  ·refine sq <| VW.region <| nG K 2 (tn 2) ?_
   obtain⟨y57,hy,h⟩:=aS h
   refine clc false [.t .str] [] (some 49) K (ok160 N _ hy) <| nG K 1 (tn 1) ?_
   refine spC 50 h ?_ ?_<;>intro h
   ·refine nG K 5 (tn 5) ?_
    refine spC 55 h ?_ ?_<;>intro h
    ·refine nG K 5 (tn 5) ?_
     refine spC 60 h ?_ ?_<;>intro h
     ·refine nN K (tn 5) ?_
      cases h; exact VW.ret (rt [])
     refine nN K (tn 5) ?_
     cases h; exact VW.ret (rt [])
    refine nN K (tn 10) ?_
    cases h; exact VW.ret (rt [])
   refine nN K (tn 15) ?_
   cases h; exact VW.ret (rt [])
  refine nR K (tn 2) ?_
  refine cnd h ?_ ?_<;>intro h
  ·refine sq <| VW.region <| nG K 2 (tn 2) ?_
   obtain⟨y58,hy,h⟩:=aS h
   refine clc false [.t (.int .i64)] [] (some 69) K (ok161 N _ hy) <| nG K 1 (tn 1) ?_
   refine spC 70 h ?_ ?_<;>intro h
   ·refine nG K 2 (tn 2) <| VO.on (j := 3) (want := true) (d := 70) (b := true) rfl rfl rfl (by kernel_rfl) rfl ?_
    obtain⟨y59,hy,h⟩:=aS h
    refine clc false [.t (.int .i64), .t (.int .i64), .t (.int .i64)] [] (some 73) K (ok96 N _ _ _ hy) <| nG K 2 (tn 2) ?_
    refine spC 75 h ?_ ?_<;>intro h
    ·refine nG K 2 (tn 2) <| VO.on (j := 8) (want := true) (d := 75) (b := true) rfl rfl rfl (by kernel_rfl) rfl ?_
     obtain⟨y60,hy,h⟩:=aS h
     refine clc false [.t (.int .i64)] [] (some 78) K (ok153 N _ hy) <| nG K 2 (tn 2) ?_
     refine spC 80 h ?_ ?_<;>intro h
     ·refine nG K 4 (tn 4) ?_
      refine spC 84 h ?_ ?_<;>intro h
      ·refine nN K (tn 11) ?_
       cases h; exact VW.ret (rt [])
      refine nG K 4 (tn 4) ?_
      refine spC 88 h ?_ ?_<;>intro h
      ·refine nN K (tn 7) ?_
       cases h; exact VW.ret (rt [])
      refine nN K (tn 7) ?_
      cases h; exact VW.ret (rt [])
     refine nN K (tn 15) ?_
     cases h; exact VW.ret (rt [])
    refine nN K (tn 20) ?_
    cases h; exact VW.ret (rt [])
   refine nN K (tn 25) ?_
   cases h; exact VW.ret (rt [])
  refine nR K (tn 2) ?_
  refine cnd h ?_ ?_<;>intro h
  ·refine VW.join (fun s => s = ⟨[(1, .lf (.ptr 0 0 0 0))], [bx [zi x9, zs x10, zi x11, zi x12, zi x13, zb x14, .v (.sl (.int .i64)) x15] 51]⟩ ∧ F97_j1 N x11 x13 x14 x15 = some r) ?_ ?_
   ·refine nR K (tn 1) <| VW.block <| lop (fun k s => ∃ x81, s = ⟨[(1, .lf (.ptr 0 0 0 0)), (3, I x81)], [bx [zi x9, zs x10, zi x11, zi x12, zi x13, zb x14, .v (.sl (.int .i64)) x15] 51]⟩ ∧ F97_l0 N x11 x13 x14 x15 k x81 = some r) N [.ren [1, 3] [0]] ⟨(0 : Int), rfl, h⟩ ?_
    rintro k86 s ⟨x81, rfl, h⟩
    cases k86 with
    | zero => cases show none = some r from h
    | succ k86 =>
     replace h : F97_l0_b N x11 x13 x14 x15 (F97_l0 N x11 x13 x14 x15 k86) x81 = some r := h
     unfold F97_l0_b at h
     refine sq <| nR K (tn 5) ?_
     refine cnd h ?_ ?_<;>intro h
     ·refine VW.skip <| sq <| VW.block <| sq <| VW.region ?_
      obtain⟨g89,h⟩:=gS h
      refine nG K 5 (pu 3 (an g89 (tn 1))) ?_
      obtain⟨y90,hy,h⟩:=aS h
      refine clc false [.t (.int .i64)] [] (some 109) K (ok161 N _ hy) <| nN K (tn 1) ?_
      refine cnd h ?_ ?_<;>intro h
      ·refine nR K (tn 1) ?_
       cases h; exact VW.ret (rt [])
      refine VW.skip <| nE K (tn 3) ?_
      exact aro [.ren [1, 3] [0]] ⟨(wr (x81 + (1 : Int))), rfl, h⟩
     refine VW.exit ?_
     exact arv [.ren [1] [0]] ⟨rfl, h⟩
   rintro s ⟨rfl, h⟩
   unfold F97_j1 at h
   refine sq <| VW.region <| nG K 3 (tn 3) ?_
   obtain⟨y75,hy,h⟩:=aS h
   refine clc false [.t (.int .i64), .t (.int .i64), .t (.int .i64)] [] (some 114) K (ok96 N _ _ _ hy) <| nG K 1 (tn 1) ?_
   refine spC 115 h ?_ ?_<;>intro h
   ·refine nG K 5 (tn 5) ?_
    refine spC 120 h ?_ ?_<;>intro h
    ·refine nG K 5 (tn 5) ?_
     refine spC 125 h ?_ ?_<;>intro h
     ·refine nN K (tn 5) ?_
      cases h; exact VW.ret (rt [])
     refine nN K (tn 5) ?_
     cases h; exact VW.ret (rt [])
    refine nN K (tn 10) ?_
    cases h; exact VW.ret (rt [])
   refine nN K (tn 15) ?_
   cases h; exact VW.ret (rt [])
  refine nR K (tn 2) ?_
  refine cnd h ?_ ?_<;>intro h
  ·refine sq <| VW.region <| nG K 2 (tn 2) ?_
   obtain⟨y91,hy,h⟩:=aS h
   refine clc false [.t (.int .i64)] [] (some 134) K (ok161 N _ hy) <| nG K 1 (tn 1) ?_
   refine spC 135 h ?_ ?_<;>intro h
   ·refine nG K 2 (tn 2) <| VO.on (j := 3) (want := true) (d := 135) (b := true) rfl rfl rfl (by kernel_rfl) rfl ?_
    obtain⟨y92,hy,h⟩:=aS h
    refine clc false [.t (.int .i64)] [] (some 138) K (ok161 N _ hy) <| nG K 2 (tn 2) ?_
    refine spC 140 h ?_ ?_<;>intro h
    ·refine nN K (tn 5) ?_
     cases h; exact VW.ret (rt [])
    refine nN K (tn 5) ?_
    cases h; exact VW.ret (rt [])
   refine nN K (tn 10) ?_
   cases h; exact VW.ret (rt [])
  refine nR K (tn 2) ?_
  refine cnd h ?_ ?_<;>intro h
  ·refine sq <| VW.region <| nG K 2 (tn 2) ?_
   obtain⟨y93,hy,h⟩:=aS h
   refine clc false [.t (.int .i64)] [] (some 149) K (ok161 N _ hy) <| nG K 1 (tn 1) ?_
   refine spC 150 h ?_ ?_<;>intro h
   ·refine nG K 5 (tn 5) ?_
    refine spC 155 h ?_ ?_<;>intro h
    ·refine nN K (tn 5) ?_
     cases h; exact VW.ret (rt [])
    refine nN K (tn 5) ?_
    cases h; exact VW.ret (rt [])
   refine nN K (tn 10) ?_
   cases h; exact VW.ret (rt [])
  refine nR K (tn 2) ?_
  refine cnd h ?_ ?_<;>intro h
  ·refine sq <| VW.region <| nG K 4 (tn 4) ?_
   refine spC 165 h ?_ ?_<;>intro h
   ·refine nG K 2 (tn 2) <| VO.on (j := 3) (want := true) (d := 165) (b := true) rfl rfl rfl (by kernel_rfl) rfl ?_
    obtain⟨y94,hy,h⟩:=aS h
    refine clc false [.t (.int .i64), .t (.int .i64), .t (.int .i64)] [] (some 168) K (ok96 N _ _ _ hy) <| nN K (tn 2) ?_
    cases h; exact VW.ret (rt [])
   refine nN K (tn 5) ?_
   cases h; exact VW.ret (rt [])
  refine VW.join (fun s => ∃ x95, s = ⟨[(1, .lf (.ptr 0 0 0 0)), (170, B x95)], [bx [zi x9, zs x10, zi x11, zi x12, zi x13, zb x14, .v (.sl (.int .i64)) x15] 51]⟩ ∧ F97_j2 N x11 x13 x14 x95 = some r) ?_ ?_
  ·refine nR K (tn 2) ?_
   refine cnd h ?_ ?_<;>intro h
   ·refine VW.skip ?_
    exact arv [.ren [1, 170] [0]] ⟨(x9 == (4 : Int)), rfl, h⟩
   refine nE K (tn 2) ?_
   exact arv [.ren [1, 170] [0]] ⟨(x9 == (7 : Int)), rfl, h⟩
  rintro s ⟨x95, rfl, h⟩
  unfold F97_j2 at h
  refine cnd h ?_ ?_<;>intro h
  ·refine sq <| VW.region <| nG K 4 (tn 4) ?_
   refine spC 176 h ?_ ?_<;>intro h
   ·refine nG K 5 (tn 5) ?_
    refine spC 181 h ?_ ?_<;>intro h
    ·refine nN K (tn 5) ?_
     cases h; exact VW.ret (rt [])
    refine nN K (tn 5) ?_
    cases h; exact VW.ret (rt [])
   refine nN K (tn 10) ?_
   cases h; exact VW.ret (rt [])
  refine VW.skip ?_
  exact arv [.ren [] []] ⟨rfl, h⟩
 rintro s ⟨rfl, h⟩
 unfold F97_j0 at h
 refine nR K (tn 1) ?_
 cases h; exact VW.ret (rt [])
def F129_j0 (N : Nat) (x6 : Bool) : Option (Int) :=
  cond x6 (some (1 : Int)) (some (-1 : Int))
def F129_j1 (N : Nat) (a0 : Int) (x5 : Bool) : Option (Int) :=
  cond x5 (some (2 : Int)) (cond (a0 == (1 : Int)) (F129_j0 N (a0 == (1 : Int))) (cond (a0 == (2 : Int)) (F129_j0 N (a0 == (2 : Int))) (cond (a0 == (5 : Int)) (F129_j0 N (a0 == (5 : Int))) (cond (a0 == (6 : Int)) (F129_j0 N (a0 == (6 : Int))) (F129_j0 N (a0 == (7 : Int)))))))
def F129 (N : Nat) (a0 : Int) : Option (Int) :=
  cond (a0 == (0 : Int)) (some (0 : Int)) (cond (a0 == (3 : Int)) (F129_j1 N a0 (a0 == (3 : Int))) (F129_j1 N a0 (a0 == (4 : Int))))
theorem ok129 N a0 {r} (h : F129 N a0 = some r) : Con prog 129 [I a0] [.lf (.v (.int .i64) r)] := by
 refine ctr [.lf (.v (.int .i64))] K func129 rfl fun w0 E0 ht => ?_
 unfold F129 at h
 show VW _ _ _ _ _ (retQ _ _ _ _) _
 refine nR K (tn 1) <| sq <| nR K (tn 1) <| VW.block <| nR K (tn 2) ?_
 refine cnd h ?_ ?_<;>intro h
 ·refine nR K (tn 1) ?_
  cases h; exact VW.ret (rt [])
 refine VW.join (fun s => ∃ x5, s = ⟨[(3, I a0), (6, B x5)], []⟩ ∧ F129_j1 N a0 x5 = some r) ?_ ?_
 ·refine nR K (tn 2) ?_
  refine cnd h ?_ ?_<;>intro h
  ·refine VW.skip ?_
   exact arv [.ren [3, 6] []] ⟨(a0 == (3 : Int)), rfl, h⟩
  refine nE K (tn 2) ?_
  exact arv [.ren [3, 6] []] ⟨(a0 == (4 : Int)), rfl, h⟩
 rintro s ⟨x5, rfl, h⟩
 unfold F129_j1 at h
 refine cnd h ?_ ?_<;>intro h
 ·refine nR K (tn 1) ?_
  cases h; exact VW.ret (rt [])
 refine VW.join (fun s => ∃ x6, s = ⟨[(9, B x6)], []⟩ ∧ F129_j0 N x6 = some r) ?_ ?_
 ·refine nR K (tn 2) ?_
  refine cnd h ?_ ?_<;>intro h
  ·refine VW.skip ?_
   exact arv [.ren [9] []] ⟨(a0 == (1 : Int)), rfl, h⟩
  refine nR K (tn 2) ?_
  refine cnd h ?_ ?_<;>intro h
  ·refine VW.skip ?_
   exact arv [.ren [9] []] ⟨(a0 == (2 : Int)), rfl, h⟩
  refine nR K (tn 2) ?_
  refine cnd h ?_ ?_<;>intro h
  ·refine VW.skip ?_
   exact arv [.ren [9] []] ⟨(a0 == (5 : Int)), rfl, h⟩
  refine nR K (tn 2) ?_
  refine cnd h ?_ ?_<;>intro h
  ·refine VW.skip ?_
   exact arv [.ren [9] []] ⟨(a0 == (6 : Int)), rfl, h⟩
  refine nE K (tn 2) ?_
  exact arv [.ren [9] []] ⟨(a0 == (7 : Int)), rfl, h⟩
 rintro s ⟨x6, rfl, h⟩
 unfold F129_j0 at h
 refine cnd h ?_ ?_<;>intro h
 ·refine nR K (tn 1) ?_
  cases h; exact VW.ret (rt [])
 refine VW.skip <| nR K (tn 1) ?_
 cases h; exact VW.ret (rt [])
def F98_j0 (N : Nat) (x33 : Int) (x34 : Int) : Option (Int × Int) :=
  some (x33, (IntKind.i64.wrap (x34 + (1 : Int))))
def F98_j1 (N : Nat) (nx58 : Int → Int → Int → Option (Int × Int)) (x48 : Int) (x64 : Int) (x65 : Int) : Option (Int × Int) :=
  nx58 x64 x65 (IntKind.i64.wrap (x48 + (1 : Int)))
def F98_l0_b (N : Nat) (a0 : (List Z50)) (a1 : Int) (a2 : Int) (self : (List Z50) → Int → Int → Option (Int × Int)) (nx58 : Int → Int → Int → Option (Int × Int)) (x46 : Int) (x47 : Int) (x48 : Int) : Option (Int × Int) :=
  gd (InR a1 a0.length) (andO (F129 N ((a0.getD a1.toNat (Ty.dflt Y50)).1)) fun y62 => cond (decide (x48 < y62)) (andO (self a0 x46 (IntKind.i64.wrap (a2 - (1 : Int)))) fun y67 => cond (decide (y67.1 < (0 : Int))) (some ((-1 : Int), (0 : Int))) (cond (decide (y67.2 > x47)) (F98_j1 N nx58 x48 y67.1 y67.2) (F98_j1 N nx58 x48 y67.1 x47))) (F98_j0 N x46 x47))
def F98_l0 (N : Nat) (a0 : (List Z50)) (a1 : Int) (a2 : Int) (self : (List Z50) → Int → Int → Option (Int × Int)) := loopF (F98_l0_b N a0 a1 a2 self) (fun _ _ _ => none)
theorem F98_l0_s N a0 a1 a2 (self : (List Z50) → Int → Int → Option (Int × Int)) {k} (hk : 0 < k) x46 x47 x48 : F98_l0 N a0 a1 a2 self k x46 x47 x48 = F98_l0_b N a0 a1 a2 self (F98_l0 N a0 a1 a2 self (k - 1)) x46 x47 x48 := by cases k;cases hk;rfl
def F98_b (N : Nat) (self : (List Z50) → Int → Int → Option (Int × Int)) (a0 : (List Z50)) (a1 : Int) (a2 : Int) : Option (Int × Int) :=
  cond (decide (a1 ≥ (a0.length : Int))) (some ((-1 : Int), (0 : Int))) (cond (a2 == (0 : Int)) (some ((-1 : Int), (0 : Int))) (F98_l0 N a0 a1 a2 self N (IntKind.i64.wrap (a1 + (1 : Int))) (0 : Int) (0 : Int)))
theorem ok98_b (N : Nat) (self : (List Z50) → Int → Int → Option (Int × Int)) (ih : ∀ (a0 : (List Z50)) (a1 : Int) (a2 : Int) (r : Int × Int), self a0 a1 a2 = some r → Con prog 98 [Vv (.sl Y50) a0, I a1, I a2] [.lf (.v (.int .i64) r.1), .lf (.v (.int .i64) r.2)]) (a0 : (List Z50)) (a1 : Int) (a2 : Int) {r : Int × Int} (h : F98_b N self a0 a1 a2 = some r) : Con prog 98 [Vv (.sl Y50) a0, I a1, I a2] [.lf (.v (.int .i64) r.1), .lf (.v (.int .i64) r.2)] := by
 refine ctr [.lf (.v (.int .i64)), .lf (.v (.int .i64))] K func98 rfl fun w0 E0 ht => ?_
 unfold F98_b at h
 show VW _ _ _ _ _ (retQ _ _ _ _) _
 refine nR K (tn 2) <| sq <| sq <| VW.region <| nG K 5 (tn 5) ?_
 refine spC 17 h ?_ ?_<;>intro h
 ·refine nN K (tn 3) ?_
  refine VW.cond (b := true) (by kernel_rfl) (fun _ => ?_) (fun h' => nomatch h')
  refine nR K (tn 2) ?_
  cases h; exact VW.ret (rt [])
 refine nN K (tn 3) ?_
 refine cnd h ?_ ?_<;>intro h
 ·refine nR K (tn 2) ?_
  cases h; exact VW.ret (rt [])
 refine VW.skip <| nR K (tn 3) <| nR K (tn 1) ?_
 refine VW.join (fun s => ∃ x33 x34, s = ⟨[(8, I x33), (9, I x34)], []⟩ ∧ F98_j0 N x33 x34 = some r) ?_ ?_
 ·refine nR K (tn 1) <| VW.block <| lop (fun k s => ∃ x46 x47 x48, s = ⟨[(0, Vv (.sl Y50) a0), (1, I a1), (2, I a2), (8, I x46), (9, I x47), (10, I x48)], []⟩ ∧ F98_l0 N a0 a1 a2 self k x46 x47 x48 = some r) N [.ren [0, 1, 2, 8, 9, 10] []] ⟨(wr (a1 + (1 : Int))), (0 : Int), (0 : Int), rfl, h⟩ ?_
  rintro k58 s ⟨x46, x47, x48, rfl, h⟩
  cases k58 with
  | zero => cases show none = some r from h
  | succ k58 =>
   replace h : F98_l0_b N a0 a1 a2 self (F98_l0 N a0 a1 a2 self k58) x46 x47 x48 = some r := h
   unfold F98_l0_b at h
   refine sq <| sq <| VW.region ?_
   obtain⟨g61,h⟩:=gS h
   refine nG K 6 (pu 3 (an g61 (tn 2))) ?_
   obtain⟨y62,hy,h⟩:=aS h
   refine clc false [.t (.int .i64)] [] (some 29) K (ok129 N _ hy) <| nN K (tn 1) ?_
   refine cnd h ?_ ?_<;>intro h
   ·refine VW.skip ?_
    refine VW.join (fun s => ∃ x64 x65, s = ⟨[(0, Vv (.sl Y50) a0), (1, I a1), (2, I a2), (8, I x64), (9, I x65), (10, I x48)], []⟩ ∧ F98_j1 N (F98_l0 N a0 a1 a2 self k58) x48 x64 x65 = some r) ?_ ?_
    ·refine VW.block <| sq <| VW.region <| nG K 4 (tn 4) ?_
     obtain⟨y67,hy,h⟩:=aS h
     refine clc false [.t (.sl Y50), .t (.int .i64), .t (.int .i64)] [] (some 38) K (ih _ _ _ _ hy) <| nN K (tn 5) <| sq <| nR K (tn 2) ?_
     refine cnd h ?_ ?_<;>intro h
     ·refine nR K (tn 2) ?_
      cases h; exact VW.ret (rt [])
     refine VW.skip <| nR K (tn 2) <| nR K (tn 3) ?_
     refine cnd h ?_ ?_<;>intro h
     ·refine nE K (tn 2) ?_
      exact arv [.ren [0, 1, 2, 8, 9, 10] []] ⟨y67.1, y67.2, rfl, h⟩
     refine VW.skip ?_
     exact arv [.ren [0, 1, 2, 8, 9, 10] []] ⟨y67.1, x47, rfl, h⟩
    rintro s ⟨x64, x65, rfl, h⟩
    unfold F98_j1 at h
    refine nE K (tn 3) ?_
    exact aro [.ren [0, 1, 2, 8, 9, 10] []] ⟨x64, x65, (wr (x48 + (1 : Int))), rfl, h⟩
   refine VW.exit ?_
   exact arv [.ren [8, 9] []] ⟨x46, x47, rfl, h⟩
 rintro s ⟨x33, x34, rfl, h⟩
 unfold F98_j0 at h
 refine nR K (tn 5) ?_
 cases h; exact VW.ret (rt [])
def F98_r (N : Nat) := loopF (F98_b N) (fun _ _ _ => none)
theorem F98_s N {k} (hk : 0 < k) a0 a1 a2 : F98_r N k a0 a1 a2 = F98_b N (F98_r N (k - 1)) a0 a1 a2 := by cases k;cases hk;rfl
def F98 (N : Nat) : (List Z50) → Int → Int → Option (Int × Int) := F98_r N N
theorem ok98_k (N : Nat) : ∀ (k : Nat) (a0 : (List Z50)) (a1 : Int) (a2 : Int) (r : Int × Int), loopF (F98_b N) (fun _ _ _ => none) k a0 a1 a2 = some r → Con prog 98 [Vv (.sl Y50) a0, I a1, I a2] [.lf (.v (.int .i64) r.1), .lf (.v (.int .i64) r.2)]
 | 0, a0, a1, a2, r, h => nomatch (show (none : Option (Int × Int)) = some r from h)
 | k + 1, a0, a1, a2, r, h => ok98_b N _ (ok98_k N k) a0 a1 a2 h
theorem ok98 N a0 a1 a2 {r} (h : F98 N a0 a1 a2 = some r) : Con prog 98 [Vv (.sl Y50) a0, I a1, I a2] [.lf (.v (.int .i64) r.1), .lf (.v (.int .i64) r.2)] := ok98_k N N a0 a1 a2 r h
def F54_j0 (N : Nat) (a0 : (List Z50)) : Option (Bool) :=
  andO (F98 N a0 (0 : Int) (10 : Int)) fun y17 => some (y17.1 == (a0.length : Int))
def F54_l0_b (N : Nat) (a0 : (List Z50)) (nx28 : Int → Option (Bool)) (x23 : Int) : Option (Bool) :=
  cond (decide (x23 < (a0.length : Int))) (gd (InR x23 a0.length) (andO (F97 N (a0.getD x23.toNat (Ty.dflt Y50))) fun y32 => cond (!y32) (some false) (nx28 (IntKind.i64.wrap (x23 + (1 : Int)))))) (F54_j0 N a0)
def F54_l0 (N : Nat) (a0 : (List Z50)) := loopF (F54_l0_b N a0) (fun _ => none)
theorem F54_l0_s N a0 {k} (hk : 0 < k) x23 : F54_l0 N a0 k x23 = F54_l0_b N a0 (F54_l0 N a0 (k - 1)) x23 := by cases k;cases hk;rfl
def F54 (N : Nat) (a0 : (List Z50)) : Option (Bool) :=
  andO (F96 N (a0.length : Int) (1 : Int) (40 : Int)) fun y2 => cond (!y2) (some false) (F54_l0 N a0 N (0 : Int))
theorem ok54 N a0 {r} (h : F54 N a0 = some r) : Con prog 54 [Vv (.sl Y50) a0] [.lf (.v .bool r)] := by
 refine ctr [.lf (.v .bool)] K func54 rfl fun w0 E0 ht => ?_
 unfold F54 at h
 show VW _ _ _ _ _ (retQ _ _ _ _) _
 refine nR K (tn 1) <| sq <| sq <| VW.region <| nG K 2 (tn 2) ?_
 obtain⟨y2,hy,h⟩:=aS h
 refine clc false [.t (.int .i64), .t (.int .i64), .t (.int .i64)] [] (some 8) K (ok96 N _ _ _ hy) <| nN K (tn 1) ?_
 refine cnd h ?_ ?_<;>intro h
 ·refine nR K (tn 1) ?_
  cases h; exact VW.ret (rt [])
 refine VW.skip ?_
 refine VW.join (fun s => s = ⟨[(0, Vv (.sl Y50) a0)], []⟩ ∧ F54_j0 N a0 = some r) ?_ ?_
 ·refine nR K (tn 1) <| VW.block <| lop (fun k s => ∃ x23, s = ⟨[(0, Vv (.sl Y50) a0), (3, I x23)], []⟩ ∧ F54_l0 N a0 k x23 = some r) N [.ren [0, 3] []] ⟨(0 : Int), rfl, h⟩ ?_
  rintro k28 s ⟨x23, rfl, h⟩
  cases k28 with
  | zero => cases show none = some r from h
  | succ k28 =>
   replace h : F54_l0_b N a0 (F54_l0 N a0 k28) x23 = some r := h
   unfold F54_l0_b at h
   refine sq <| nR K (tn 4) ?_
   refine cnd h ?_ ?_<;>intro h
   ·refine VW.skip <| sq <| VW.block <| sq <| VW.region ?_
    obtain⟨g31,h⟩:=gS h
    refine nG K 4 (pu 2 (an g31 (tn 1))) ?_
    obtain⟨y32,hy,h⟩:=aS h
    refine clc false [.t Y50] [] (some 20) K (ok97 N _ hy) <| nN K (tn 1) ?_
    refine cnd h ?_ ?_<;>intro h
    ·refine nR K (tn 1) ?_
     cases h; exact VW.ret (rt [])
    refine VW.skip <| nE K (tn 3) ?_
    exact aro [.ren [0, 3] []] ⟨(wr (x23 + (1 : Int))), rfl, h⟩
   refine VW.exit ?_
   exact arv [.ren [0] []] ⟨rfl, h⟩
 rintro s ⟨rfl, h⟩
 unfold F54_j0 at h
 refine sq <| VW.region <| nG K 1 (tn 1) ?_
 obtain⟨y17,hy,h⟩:=aS h
 refine clc false [.t (.sl Y50), .t (.int .i64), .t (.int .i64)] [] (some 24) K (ok98 N _ _ _ hy) <| nN K (tn 5) <| nR K (tn 5) ?_
 cases h; exact VW.ret (rt [])
def F55_j0 (N : Nat) : Option (Bool) :=
  some false
def F55_l0_b (N : Nat) (a0 : (List Int)) (a1 : Int) (nx15 : Int → Option (Bool)) (x12 : Int) : Option (Bool) :=
  cond (decide (x12 < (a0.length : Int))) (gd (InR x12 a0.length) (cond ((a0.getD x12.toNat (Ty.dflt (.int .i64))) == a1) (some true) (nx15 (IntKind.i64.wrap (x12 + (1 : Int)))))) (F55_j0 N)
def F55_l0 (N : Nat) (a0 : (List Int)) (a1 : Int) := loopF (F55_l0_b N a0 a1) (fun _ => none)
theorem F55_l0_s N a0 a1 {k} (hk : 0 < k) x12 : F55_l0 N a0 a1 k x12 = F55_l0_b N a0 a1 (F55_l0 N a0 a1 (k - 1)) x12 := by cases k;cases hk;rfl
def F55 (N : Nat) (a0 : (List Int)) (a1 : Int) : Option (Bool) :=
  F55_l0 N a0 a1 N (0 : Int)
theorem ok55 N a0 a1 {r} (h : F55 N a0 a1 = some r) : Con prog 55 [Vv (.sl (.int .i64)) a0, I a1] [.lf (.v .bool r)] := by
 refine ctr [.lf (.v .bool)] K func55 rfl fun w0 E0 ht => ?_
 unfold F55 at h
 show VW _ _ _ _ _ (retQ _ _ _ _) _
 refine nR K (tn 1) ?_
 refine VW.join (fun s => s = ⟨[], []⟩ ∧ F55_j0 N = some r) ?_ ?_
 ·refine nR K (tn 1) <| VW.block <| lop (fun k s => ∃ x12, s = ⟨[(0, Vv (.sl (.int .i64)) a0), (1, I a1), (5, I x12)], []⟩ ∧ F55_l0 N a0 a1 k x12 = some r) N [.ren [0, 1, 5] []] ⟨(0 : Int), rfl, h⟩ ?_
  rintro k15 s ⟨x12, rfl, h⟩
  cases k15 with
  | zero => cases show none = some r from h
  | succ k15 =>
   replace h : F55_l0_b N a0 a1 (F55_l0 N a0 a1 k15) x12 = some r := h
   unfold F55_l0_b at h
   refine sq <| nR K (tn 4) ?_
   refine cnd h ?_ ?_<;>intro h
   ·refine VW.skip <| sq <| VW.block ?_
    obtain⟨g17,h⟩:=gS h
    refine nR K (pu 2 (an g17 (tn 3))) ?_
    refine cnd h ?_ ?_<;>intro h
    ·refine nR K (tn 1) ?_
     cases h; exact VW.ret (rt [])
    refine VW.skip <| nE K (tn 3) ?_
    exact aro [.ren [0, 1, 5] []] ⟨(wr (x12 + (1 : Int))), rfl, h⟩
   refine VW.exit ?_
   exact arv [.ren [] []] ⟨rfl, h⟩
 rintro s ⟨rfl, h⟩
 unfold F55_j0 at h
 refine nR K (tn 1) ?_
 cases h; exact VW.ret (rt [])
def F77_j0 (N : Nat) (x210 : (List Int)) : Option ((List Int)) :=
  some x210
def F77_j1 (N : Nat) (nx350 : (List Int) → Int → Option ((List Int))) (x281 : Int) (x384 : (List Int)) : Option ((List Int)) :=
  nx350 x384 (IntKind.i64.wrap (x281 + (1 : Int)))
def F77_j2 (N : Nat) (nx408 : (List Int) → Int → Option ((List Int))) (x397 : Int) (x413 : (List Int)) : Option ((List Int)) :=
  nx408 x413 (IntKind.i64.wrap (x397 + (1 : Int)))
def F77_l0_b (N : Nat) (a0 : (List Z50)) (nx350 : (List Int) → Int → Option ((List Int))) (x281 : Int) (nx408 : (List Int) → Int → Option ((List Int))) (x396 : (List Int)) (x397 : Int) : Option ((List Int)) :=
  cond (decide (x397 < (a0.length : Int))) (gd (InR x397 a0.length) (cond ((a0.getD x397.toNat (Ty.dflt Y50)).2.2.2.2.2.1) (gd (InR x397 a0.length) (cond (((a0.getD x397.toNat (Ty.dflt Y50)).2.2.2.2.1) == x281) (andO (F55 N x396 x281) fun y417 => cond (!y417) (gd (x396.length + ([x281]).length ≤ lim (.int .i64)) (F77_j2 N nx408 x397 (x396 ++ ([x281])))) (F77_j2 N nx408 x397 x396)) (F77_j2 N nx408 x397 x396))) (F77_j2 N nx408 x397 x396))) (F77_j1 N nx350 x281 x396)
def F77_l0 (N : Nat) (a0 : (List Z50)) (nx350 : (List Int) → Int → Option ((List Int))) (x281 : Int) := loopF (F77_l0_b N a0 nx350 x281) (fun _ _ => none)
theorem F77_l0_s N a0 nx350 x281 {k} (hk : 0 < k) x396 x397 : F77_l0 N a0 nx350 x281 k x396 x397 = F77_l0_b N a0 nx350 x281 (F77_l0 N a0 nx350 x281 (k - 1)) x396 x397 := by cases k;cases hk;rfl
def F77_l1_b (N : Nat) (a0 : (List Z50)) (nx350 : (List Int) → Int → Option ((List Int))) (x280 : (List Int)) (x281 : Int) : Option ((List Int)) :=
  cond (decide (x281 < (40 : Int))) (F77_l0 N a0 nx350 x281 N x280 (0 : Int)) (F77_j0 N x280)
def F77_l1 (N : Nat) (a0 : (List Z50)) := loopF (F77_l1_b N a0) (fun _ _ => none)
theorem F77_l1_s N a0 {k} (hk : 0 < k) x280 x281 : F77_l1 N a0 k x280 x281 = F77_l1_b N a0 (F77_l1 N a0 (k - 1)) x280 x281 := by cases k;cases hk;rfl
def F77 (N : Nat) (a0 : (List Z50)) : Option ((List Int)) :=
  andO (F54 N a0) fun y2 => cond (!y2) (some ([])) (F77_l1 N a0 N ([]) (0 : Int))
theorem ok77 N a0 {r} (h : F77 N a0 = some r) : Con prog 77 [Vv (.sl Y50) a0] [.lf (.own (.int .i64) r .dp)] := by
 refine ctr [.lf (.own (.int .i64) .dp)] K func77 rfl fun w0 E0 ht => ?_
 unfold F77 at h
 show VW _ _ _ _ _ (retQ _ _ _ _) _
 refine nR K (tn 1) <| nR K (tn 2) <| sq <| sq <| VW.region <| nG K 1 (tn 1) ?_
 obtain⟨y2,hy,h⟩:=aS h
 refine clc false [.t (.sl Y50)] [] (some 8) K (ok54 N _ hy) <| nN K (tn 1) ?_
 refine cnd h ?_ ?_<;>intro h
 ·refine nR K (tn 1) ?_
  cases h; exact VW.ret (rt [none])
 refine VW.skip ?_
 refine VW.join (fun s => ∃ x210, s = ⟨[(3, hh 0)], [ar 0 (.int .i64) x210 .dp]⟩ ∧ F77_j0 N x210 = some r) ?_ ?_
 ·refine nR K (tn 1) <| VW.block <| lop (fun k s => ∃ x280 x281, s = ⟨[(0, Vv (.sl Y50) a0), (3, hh 0), (4, I x281)], [ar 0 (.int .i64) x280 .dp]⟩ ∧ F77_l1 N a0 k x280 x281 = some r) N [.nilS 3 (.int .i64) .dp, .ren [0, 3, 4] [0]] ⟨[], (0 : Int), rfl, h⟩ ?_
  rintro k350 s ⟨x280, x281, rfl, h⟩
  cases k350 with
  | zero => cases show none = some r from h
  | succ k350 =>
   replace h : F77_l1_b N a0 (F77_l1 N a0 k350) x280 x281 = some r := h
   unfold F77_l1_b at h
   refine sq <| nR K (tn 2) ?_
   refine cnd h ?_ ?_<;>intro h
   ·refine VW.skip ?_
    refine VW.join (fun s => ∃ x384, s = ⟨[(0, Vv (.sl Y50) a0), (3, hh 0), (4, I x281)], [ar 0 (.int .i64) x384 .dp]⟩ ∧ F77_j1 N (F77_l1 N a0 k350) x281 x384 = some r) ?_ ?_
    ·refine VW.block <| nR K (tn 1) <| VW.block <| lop (fun k s => ∃ x396 x397, s = ⟨[(0, Vv (.sl Y50) a0), (3, hh 0), (4, I x281), (5, I x397)], [ar 0 (.int .i64) x396 .dp]⟩ ∧ F77_l0 N a0 (F77_l1 N a0 k350) x281 k x396 x397 = some r) N [.ren [0, 3, 4, 5] [0]] ⟨x280, (0 : Int), rfl, h⟩ ?_
     rintro k408 s ⟨x396, x397, rfl, h⟩
     cases k408 with
     | zero => cases show none = some r from h
     | succ k408 =>
      replace h : F77_l0_b N a0 (F77_l1 N a0 k350) x281 (F77_l0 N a0 (F77_l1 N a0 k350) x281 k408) x396 x397 = some r := h
      unfold F77_l0_b at h
      refine sq <| nR K (tn 4) ?_
      refine cnd h ?_ ?_<;>intro h
      ·refine VW.skip ?_
       refine VW.join (fun s => ∃ x413, s = ⟨[(0, Vv (.sl Y50) a0), (3, hh 0), (4, I x281), (5, I x397)], [ar 0 (.int .i64) x413 .dp]⟩ ∧ F77_j2 N (F77_l0 N a0 (F77_l1 N a0 k350) x281 k408) x397 x413 = some r) ?_ ?_
       ·refine VW.block <| sq <| VW.region ?_
        obtain⟨g415,h⟩:=gS h
        refine nG K 6 (pu 2 (an g415 (tn 3))) ?_
        refine spC 25 h ?_ ?_<;>intro h
        ·obtain⟨g416,h⟩:=gS h
         refine nG K 9 (pu 2 (an g416 (tn 6))) ?_
         refine spC 34 h ?_ ?_<;>intro h
         ·refine nG K 2 (tn 2) <| VO.on (j := 14) (want := true) (d := 34) (b := true) rfl rfl rfl (by kernel_rfl) rfl ?_
          obtain⟨y417,hy,h⟩:=aS h
          refine clc true [.t (.sl (.int .i64)), .t (.int .i64)] [] (some 37) K (ok55 N _ _ hy) <| nN K (tn 2) ?_
          refine cnd h ?_ ?_<;>intro h
          ·obtain⟨g418,h⟩:=gS h
           refine nE K (pu 3 (an g418 (tn 1))) ?_
           exact arv [.ren [0, 3, 4, 5] [0]] ⟨(x396 ++ ([x281])), rfl, h⟩
          refine VW.skip ?_
          exact arv [.ren [0, 3, 4, 5] [0]] ⟨x396, rfl, h⟩
         refine nN K (tn 5) ?_
         refine VW.cond (b := false) (by kernel_rfl) (fun h' => nomatch h') (fun _ => ?_)
         refine VW.skip ?_
         exact arv [.ren [0, 3, 4, 5] [0]] ⟨x396, rfl, h⟩
        refine nN K (tn 14) ?_
        refine VW.cond (b := false) (by kernel_rfl) (fun h' => nomatch h') (fun _ => ?_)
        refine VW.skip ?_
        exact arv [.ren [0, 3, 4, 5] [0]] ⟨x396, rfl, h⟩
       rintro s ⟨x413, rfl, h⟩
       unfold F77_j2 at h
       refine nE K (tn 3) ?_
       exact aro [.ren [0, 3, 4, 5] [0]] ⟨x413, (wr (x397 + (1 : Int))), rfl, h⟩
      refine VW.exit ?_
      exact arv [.ren [0, 3, 4] [0]] ⟨x396, rfl, h⟩
    rintro s ⟨x384, rfl, h⟩
    unfold F77_j1 at h
    refine nE K (tn 3) ?_
    exact aro [.ren [0, 3, 4] [0]] ⟨x384, (wr (x281 + (1 : Int))), rfl, h⟩
   refine VW.exit ?_
   exact arv [.ren [3] [0]] ⟨x280, rfl, h⟩
 rintro s ⟨x210, rfl, h⟩
 unfold F77_j0 at h
 refine nR K (tn 2) ?_
 cases h; exact VW.ret (rt [some 0])
def F37 (N : Nat) (a0 : (List Z50)) : Option (Bool) :=
  andO (F54 N a0) fun y1 => cond y1 (andO (F77 N a0) fun y2 => some ((y2.length : Int) == (0 : Int))) (some false)
theorem ok37 N a0 {r} (h : F37 N a0 = some r) : Con prog 37 [Vv (.sl Y50) a0] [.lf (.v .bool r)] := by
 refine ctr [.lf (.v .bool)] K func37 rfl fun w0 E0 ht => ?_
 unfold F37 at h
 show VW _ _ _ _ _ (retQ _ _ _ _) _
 refine nR K (tn 1) <| sq <| VW.region <| nG K 1 (tn 1) ?_
 obtain⟨y1,hy,h⟩:=aS h
 refine clc false [.t (.sl Y50)] [] (some 4) K (ok54 N _ hy) <| nG K 1 (tn 1) ?_
 refine spC 5 h ?_ ?_<;>intro h
 ·refine nG K 1 (tn 1) <| VO.on (j := 2) (want := true) (d := 5) (b := true) rfl rfl rfl (by kernel_rfl) rfl ?_
  obtain⟨y2,hy,h⟩:=aS h
  refine clc false [.t (.sl Y50)] [] (some 7) K (ok77 N _ hy) <| nN K (tn 4) ?_
  cases h; exact VW.ret (rt [])
 refine nN K (tn 6) ?_
 cases h; exact VW.ret (rt [])
def F39 (N : Nat) (a0 : Z50) : Option (Bool) :=
  cond (a0.1 == (1 : Int)) (cond (a0.2.2.2.1 != (3 : Int)) (some true) (some (a0.1 == (6 : Int)))) (some (a0.1 == (6 : Int)))
theorem ok39 N a0 {r} (h : F39 N a0 = some r) : Con prog 39 [.agg (lv Y50 a0)] [.lf (.v .bool r)] := by
 refine ctr [.lf (.v .bool)] K func39 rfl fun w0 E0 ht => ?_
 unfold F39 at h
 show VW _ _ _ _ _ (retQ _ _ _ _) _
 refine nR K (tn 2) <| sq <| VW.region <| nG K 4 (tn 4) ?_
 refine spC 6 h ?_ ?_<;>intro h
 ·refine nG K 5 (tn 5) ?_
  refine spC 11 h ?_ ?_<;>intro h
  ·refine nN K (tn 5) ?_
   cases h; exact VW.ret (rt [])
  refine nN K (tn 5) ?_
  cases h; exact VW.ret (rt [])
 refine nN K (tn 10) ?_
 cases h; exact VW.ret (rt [])
def F7_j0 (N : Nat) (x95 : (List Z50)) (x96 : (List Int)) : Option ((List Z50) × (List Int) × Bool) :=
  some (x95, x96, true)
def F7_j1 (N : Nat) (nx159 : (List Z50) → (List Int) → Int → Option ((List Z50) × (List Int) × Bool)) (x129 : Int) (x173 : (List Z50)) (x174 : (List Int)) : Option ((List Z50) × (List Int) × Bool) :=
  nx159 x173 x174 (IntKind.i64.wrap (x129 + (1 : Int)))
def F7_l0_b (N : Nat) (nx159 : (List Z50) → (List Int) → Int → Option ((List Z50) × (List Int) × Bool)) (x127 : (List Z50)) (x128 : (List Int)) (x129 : Int) : Option ((List Z50) × (List Int) × Bool) :=
  cond (decide (x129 < (x127.length : Int))) (gd (InR x129 x127.length) (gd (x129.toNat < x127.length) (andO (F39 N (x127.getD x129.toNat (Ty.dflt Y50))) fun y180 => cond (!y180) (F7_j1 N nx159 x129 x127 x128) (gd (InR x129 x127.length) (gd (x129.toNat < x127.length) (gd (x128.length + ([(x127.getD x129.toNat (Ty.dflt Y50)).2.2.2.2.1]).length ≤ lim (.int .i64)) (gd (InR x129 x127.length) (gd (x129.toNat < x127.length) (gd (InR x129 (x127.set x129.toNat ((x127.getD x129.toNat (Ty.dflt Y50)).1, ((x127.getD x129.toNat (Ty.dflt Y50)).2.1, ((x127.getD x129.toNat (Ty.dflt Y50)).2.2.1, ((x127.getD x129.toNat (Ty.dflt Y50)).2.2.2.1, ((x127.getD x129.toNat (Ty.dflt Y50)).2.2.2.2.1, (true, (x127.getD x129.toNat (Ty.dflt Y50)).2.2.2.2.2.2))))))).length) (gd (x129.toNat < (x127.set x129.toNat ((x127.getD x129.toNat (Ty.dflt Y50)).1, ((x127.getD x129.toNat (Ty.dflt Y50)).2.1, ((x127.getD x129.toNat (Ty.dflt Y50)).2.2.1, ((x127.getD x129.toNat (Ty.dflt Y50)).2.2.2.1, ((x127.getD x129.toNat (Ty.dflt Y50)).2.2.2.2.1, (true, (x127.getD x129.toNat (Ty.dflt Y50)).2.2.2.2.2.2))))))).length) (F7_j1 N nx159 x129 (x127.set x129.toNat ((x127.getD x129.toNat (Ty.dflt Y50)).1, ((x127.getD x129.toNat (Ty.dflt Y50)).2.1, ((x127.getD x129.toNat (Ty.dflt Y50)).2.2.1, ((x127.getD x129.toNat (Ty.dflt Y50)).2.2.2.1, ((IntKind.i64.wrap (((x128 ++ ([(x127.getD x129.toNat (Ty.dflt Y50)).2.2.2.2.1])).length : Int) - (1 : Int))), (true, (x127.getD x129.toNat (Ty.dflt Y50)).2.2.2.2.2.2))))))) (x128 ++ ([(x127.getD x129.toNat (Ty.dflt Y50)).2.2.2.2.1]))))))))))))) (F7_j0 N x127 x128)
def F7_l0 (N : Nat) := loopF (F7_l0_b N) (fun _ _ _ => none)
theorem F7_l0_s N {k} (hk : 0 < k) x127 x128 x129 : F7_l0 N k x127 x128 x129 = F7_l0_b N (F7_l0 N (k - 1)) x127 x128 x129 := by cases k;cases hk;rfl
def F7 (N : Nat) (a0 : (List Z50)) : Option ((List Z50) × (List Int) × Bool) :=
  andO (F37 N a0) fun y2 => cond (!y2) (some ([], [], false)) (andO (F38 N a0) fun y3 => F7_l0 N N y3 ([]) (0 : Int))
theorem ok7 N a0 {r} (h : F7 N a0 = some r) : Con prog 7 [Vv (.sl Y50) a0] [.lf (.own Y50 r.1 .dp), .lf (.own (.int .i64) r.2.1 .dp), .lf (.v .bool r.2.2)] := by
 refine ctr [.lf (.own Y50 .dp), .lf (.own (.int .i64) .dp), .lf (.v .bool)] K func7 rfl fun w0 E0 ht => ?_
 unfold F7 at h
 show VW _ _ _ _ _ (retQ _ _ _ _) _
 refine nR K (tn 3) <| sq <| sq <| VW.region <| nG K 1 (tn 1) ?_
 obtain⟨y2,hy,h⟩:=aS h
 refine clc false [.t (.sl Y50)] [] (some 9) K (ok37 N _ hy) <| nN K (tn 1) ?_
 refine cnd h ?_ ?_<;>intro h
 ·refine nR K (tn 3) ?_
  cases h; exact VW.ret (rt [none, none])
 refine VW.skip <| sq <| VW.region <| nG K 1 (tn 1) ?_
 obtain⟨y3,hy,h⟩:=aS h
 refine clc false [.t (.sl Y50)] [] (some 12) K (ok38 N _ hy) <| nN K (tn 1) <| nR K (tn 2) ?_
 refine VW.join (fun s => ∃ x95 x96, s = ⟨[(5, hh 0), (6, hh 1)], [ar 0 Y50 x95 .dp, ar 0 (.int .i64) x96 .dp]⟩ ∧ F7_j0 N x95 x96 = some r) ?_ ?_
 ·refine nR K (tn 1) <| VW.block <| lop (fun k s => ∃ x127 x128 x129, s = ⟨[(5, hh 0), (6, hh 1), (7, I x129)], [ar 0 Y50 x127 .dp, ar 0 (.int .i64) x128 .dp]⟩ ∧ F7_l0 N k x127 x128 x129 = some r) N [.nilS 6 (.int .i64) .dp, .ren [5, 6, 7] [0, 1]] ⟨y3, [], (0 : Int), rfl, h⟩ ?_
  rintro k159 s ⟨x127, x128, x129, rfl, h⟩
  cases k159 with
  | zero => cases show none = some r from h
  | succ k159 =>
   replace h : F7_l0_b N (F7_l0 N k159) x127 x128 x129 = some r := h
   unfold F7_l0_b at h
   refine sq <| nR K (tn 4) ?_
   refine cnd h ?_ ?_<;>intro h
   ·refine VW.skip ?_
    refine VW.join (fun s => ∃ x173 x174, s = ⟨[(5, hh 0), (6, hh 1), (7, I x129)], [ar 0 Y50 x173 .dp, ar 0 (.int .i64) x174 .dp]⟩ ∧ F7_j1 N (F7_l0 N k159) x129 x173 x174 = some r) ?_ ?_
    ·refine VW.block <| sq <| sq <| VW.region ?_
     obtain⟨g179,h⟩:=gS h
     refine nG K 3 (pu 2 (an g179 (tn 0))) ?_
     obtain⟨g181,h⟩:=gS h
     obtain⟨y180,hy,h⟩:=aS h
     refine VO.peek (t := 51) (d1 := 23) (d2 := 24) (id := 0) (cur := 0) (i := x129.toNat) (f := 39) (l := []) (e := Y50) (xs := x127) K (by kernel_rfl) (by kernel_rfl) (by kernel_rfl) (by kernel_rfl) g181 (by kernel_rfl) (ok39 N _ hy) rfl <| nN K (tn 1) ?_
     refine cnd h ?_ ?_<;>intro h
     ·refine VW.exit ?_
      exact arv [.ren [5, 6, 7] [0, 1]] ⟨x127, x128, rfl, h⟩
     refine VW.skip ?_
     obtain⟨g182,h⟩:=gS h
     obtain⟨g183,h⟩:=gS h
     obtain⟨g184,h⟩:=gS h
     refine nR K (pu 3 (an g182 (pu 1 (an g183 (pu 1 (an g184 (tn 1))))))) ?_
     obtain⟨g185,h⟩:=gS h
     obtain⟨g186,h⟩:=gS h
     refine nR K (pu 2 (an g185 (pu 1 (an g186 (tn 0))))) <| VW.region ?_
     obtain⟨g187,h⟩:=gS h
     obtain⟨g188,h⟩:=gS h
     refine sG K 8 [5, 6, 7] [0, 1] ⟨[(5, hh 0), (6, hh 1), (7, I x129)], [ar 0 Y50 ((x127.set x129.toNat ((x127.getD x129.toNat D50).1, ((x127.getD x129.toNat D50).2.1, ((x127.getD x129.toNat D50).2.2.1, ((x127.getD x129.toNat D50).2.2.2.1, ((x127.getD x129.toNat D50).2.2.2.2.1, (true, (x127.getD x129.toNat D50).2.2.2.2.2.2))))))).set x129.toNat (((x127.set x129.toNat ((x127.getD x129.toNat D50).1, ((x127.getD x129.toNat D50).2.1, ((x127.getD x129.toNat D50).2.2.1, ((x127.getD x129.toNat D50).2.2.2.1, ((x127.getD x129.toNat D50).2.2.2.2.1, (true, (x127.getD x129.toNat D50).2.2.2.2.2.2))))))).getD x129.toNat D50).1, (((x127.set x129.toNat ((x127.getD x129.toNat D50).1, ((x127.getD x129.toNat D50).2.1, ((x127.getD x129.toNat D50).2.2.1, ((x127.getD x129.toNat D50).2.2.2.1, ((x127.getD x129.toNat D50).2.2.2.2.1, (true, (x127.getD x129.toNat D50).2.2.2.2.2.2))))))).getD x129.toNat D50).2.1, (((x127.set x129.toNat ((x127.getD x129.toNat D50).1, ((x127.getD x129.toNat D50).2.1, ((x127.getD x129.toNat D50).2.2.1, ((x127.getD x129.toNat D50).2.2.2.1, ((x127.getD x129.toNat D50).2.2.2.2.1, (true, (x127.getD x129.toNat D50).2.2.2.2.2.2))))))).getD x129.toNat D50).2.2.1, (((x127.set x129.toNat ((x127.getD x129.toNat D50).1, ((x127.getD x129.toNat D50).2.1, ((x127.getD x129.toNat D50).2.2.1, ((x127.getD x129.toNat D50).2.2.2.1, ((x127.getD x129.toNat D50).2.2.2.2.1, (true, (x127.getD x129.toNat D50).2.2.2.2.2.2))))))).getD x129.toNat D50).2.2.2.1, ((wr (((x128 ++ ([(x127.getD x129.toNat D50).2.2.2.2.1])).length : Int) - (1 : Int))), (((x127.set x129.toNat ((x127.getD x129.toNat D50).1, ((x127.getD x129.toNat D50).2.1, ((x127.getD x129.toNat D50).2.2.1, ((x127.getD x129.toNat D50).2.2.2.1, ((x127.getD x129.toNat D50).2.2.2.2.1, (true, (x127.getD x129.toNat D50).2.2.2.2.2.2))))))).getD x129.toNat D50).2.2.2.2.2.1, ((x127.set x129.toNat ((x127.getD x129.toNat D50).1, ((x127.getD x129.toNat D50).2.1, ((x127.getD x129.toNat D50).2.2.1, ((x127.getD x129.toNat D50).2.2.2.1, ((x127.getD x129.toNat D50).2.2.2.2.1, (true, (x127.getD x129.toNat D50).2.2.2.2.2.2))))))).getD x129.toNat D50).2.2.2.2.2.2))))))) .dp, ar 0 (.int .i64) (x128 ++ ([(x127.getD x129.toNat D50).2.2.2.2.1])) .dp]⟩ (pu 5 (an g187 (pu 1 (an g188 (tn 0))))) ?_
     rw [show ((x127.set x129.toNat ((x127.getD x129.toNat D50).1, ((x127.getD x129.toNat D50).2.1, ((x127.getD x129.toNat D50).2.2.1, ((x127.getD x129.toNat D50).2.2.2.1, ((x127.getD x129.toNat D50).2.2.2.2.1, (true, (x127.getD x129.toNat D50).2.2.2.2.2.2))))))).set x129.toNat (((x127.set x129.toNat ((x127.getD x129.toNat D50).1, ((x127.getD x129.toNat D50).2.1, ((x127.getD x129.toNat D50).2.2.1, ((x127.getD x129.toNat D50).2.2.2.1, ((x127.getD x129.toNat D50).2.2.2.2.1, (true, (x127.getD x129.toNat D50).2.2.2.2.2.2))))))).getD x129.toNat D50).1, (((x127.set x129.toNat ((x127.getD x129.toNat D50).1, ((x127.getD x129.toNat D50).2.1, ((x127.getD x129.toNat D50).2.2.1, ((x127.getD x129.toNat D50).2.2.2.1, ((x127.getD x129.toNat D50).2.2.2.2.1, (true, (x127.getD x129.toNat D50).2.2.2.2.2.2))))))).getD x129.toNat D50).2.1, (((x127.set x129.toNat ((x127.getD x129.toNat D50).1, ((x127.getD x129.toNat D50).2.1, ((x127.getD x129.toNat D50).2.2.1, ((x127.getD x129.toNat D50).2.2.2.1, ((x127.getD x129.toNat D50).2.2.2.2.1, (true, (x127.getD x129.toNat D50).2.2.2.2.2.2))))))).getD x129.toNat D50).2.2.1, (((x127.set x129.toNat ((x127.getD x129.toNat D50).1, ((x127.getD x129.toNat D50).2.1, ((x127.getD x129.toNat D50).2.2.1, ((x127.getD x129.toNat D50).2.2.2.1, ((x127.getD x129.toNat D50).2.2.2.2.1, (true, (x127.getD x129.toNat D50).2.2.2.2.2.2))))))).getD x129.toNat D50).2.2.2.1, ((wr (((x128 ++ ([(x127.getD x129.toNat D50).2.2.2.2.1])).length : Int) - (1 : Int))), (((x127.set x129.toNat ((x127.getD x129.toNat D50).1, ((x127.getD x129.toNat D50).2.1, ((x127.getD x129.toNat D50).2.2.1, ((x127.getD x129.toNat D50).2.2.2.1, ((x127.getD x129.toNat D50).2.2.2.2.1, (true, (x127.getD x129.toNat D50).2.2.2.2.2.2))))))).getD x129.toNat D50).2.2.2.2.2.1, ((x127.set x129.toNat ((x127.getD x129.toNat D50).1, ((x127.getD x129.toNat D50).2.1, ((x127.getD x129.toNat D50).2.2.1, ((x127.getD x129.toNat D50).2.2.2.1, ((x127.getD x129.toNat D50).2.2.2.2.1, (true, (x127.getD x129.toNat D50).2.2.2.2.2.2))))))).getD x129.toNat D50).2.2.2.2.2.2))))))) = (x127.set x129.toNat ((x127.getD x129.toNat D50).1, ((x127.getD x129.toNat D50).2.1, ((x127.getD x129.toNat D50).2.2.1, ((x127.getD x129.toNat D50).2.2.2.1, ((wr (((x128 ++ ([(x127.getD x129.toNat D50).2.2.2.2.1])).length : Int) - (1 : Int))), (true, (x127.getD x129.toNat D50).2.2.2.2.2.2))))))) from set_upd x127 x129.toNat ((x127.getD x129.toNat D50).1, ((x127.getD x129.toNat D50).2.1, ((x127.getD x129.toNat D50).2.2.1, ((x127.getD x129.toNat D50).2.2.2.1, ((x127.getD x129.toNat D50).2.2.2.2.1, (true, (x127.getD x129.toNat D50).2.2.2.2.2.2)))))) D50 (fun z => (z.1, (z.2.1, (z.2.2.1, (z.2.2.2.1, ((wr (((x128 ++ ([(x127.getD x129.toNat D50).2.2.2.2.1])).length : Int) - (1 : Int))), (z.2.2.2.2.2.1, z.2.2.2.2.2.2))))))) (by first | (simp; done) | simpa using g188)]
     refine sN K [5, 6, 7] [0, 1] ⟨[(5, hh 0), (6, hh 1), (7, I x129)], [ar 0 Y50 (x127.set x129.toNat ((x127.getD x129.toNat D50).1, ((x127.getD x129.toNat D50).2.1, ((x127.getD x129.toNat D50).2.2.1, ((x127.getD x129.toNat D50).2.2.2.1, ((wr (((x128 ++ ([(x127.getD x129.toNat D50).2.2.2.2.1])).length : Int) - (1 : Int))), (true, (x127.getD x129.toNat D50).2.2.2.2.2.2))))))) .dp, ar 0 (.int .i64) (x128 ++ ([(x127.getD x129.toNat D50).2.2.2.2.1])) .dp]⟩ (tn 0) ?_
     exact arv [.ren [5, 6, 7] [0, 1]] ⟨(x127.set x129.toNat ((x127.getD x129.toNat D50).1, ((x127.getD x129.toNat D50).2.1, ((x127.getD x129.toNat D50).2.2.1, ((x127.getD x129.toNat D50).2.2.2.1, ((wr (((x128 ++ ([(x127.getD x129.toNat D50).2.2.2.2.1])).length : Int) - (1 : Int))), (true, (x127.getD x129.toNat D50).2.2.2.2.2.2))))))), (x128 ++ ([(x127.getD x129.toNat D50).2.2.2.2.1])), rfl, h⟩
    rintro s ⟨x173, x174, rfl, h⟩
    unfold F7_j1 at h
    refine nE K (tn 3) ?_
    exact aro [.ren [5, 6, 7] [0, 1]] ⟨x173, x174, (wr (x129 + (1 : Int))), rfl, h⟩
   refine VW.exit ?_
   exact arv [.ren [5, 6] [0, 1]] ⟨x127, x128, rfl, h⟩
 rintro s ⟨x95, x96, rfl, h⟩
 unfold F7_j0 at h
 refine nR K (tn 5) ?_
 cases h; exact VW.ret (rt [some 0, some 1])
def F87_j0 (N : Nat) : Option (Int) :=
  some (-1 : Int)
def F87_l0_b (N : Nat) (a0 : (List Z50)) (p1 : Z50 → Option (Bool)) (nx29 : Int → Int → Option (Int)) (x23 : Int) (x24 : Int) : Option (Int) :=
  cond (decide (x24 < x23)) (gd (InR x24 a0.length) (andO (p1 (a0.getD x24.toNat (Ty.dflt Y50))) fun y33 => cond y33 (some x24) (nx29 x23 (IntKind.i64.wrap (x24 + (1 : Int)))))) (F87_j0 N)
def F87_l0 (N : Nat) (a0 : (List Z50)) (p1 : Z50 → Option (Bool)) := loopF (F87_l0_b N a0 p1) (fun _ _ => none)
theorem F87_l0_s N a0 (p1 : Z50 → Option (Bool)) {k} (hk : 0 < k) x23 x24 : F87_l0 N a0 p1 k x23 x24 = F87_l0_b N a0 p1 (F87_l0 N a0 p1 (k - 1)) x23 x24 := by cases k;cases hk;rfl
def F87 (N : Nat) (a0 : (List Z50)) (p1 : Z50 → Option (Bool)) : Option (Int) :=
  F87_l0 N a0 p1 N (a0.length : Int) (0 : Int)
theorem ok87 N a0 (g1 : FuncId) (p1 : Z50 → Option (Bool)) (hp1 : ∀ (z0 : Z50) (r : Bool), p1 z0 = some r → Con prog g1 [.agg (lv Y50 z0)] [.lf (.v .bool r)]) {r} (h : F87 N a0 p1 = some r) : Con prog 87 [Vv (.sl Y50) a0, .clo g1 []] [.lf (.v (.int .i64) r)] := by
 refine ctr [.lf (.v (.int .i64))] K func87 rfl fun w0 E0 ht => ?_
 unfold F87 at h
 show VW _ _ _ _ _ (retQ _ _ _ _) _
 refine nR K (tn 1) ?_
 refine VW.join (fun s => s = ⟨[], []⟩ ∧ F87_j0 N = some r) ?_ ?_
 ·refine nR K (tn 3) <| VW.block <| lop (fun k s => ∃ x23 x24, s = ⟨[(0, Vv (.sl Y50) a0), (1, .clo g1 []), (7, I x23), (8, I x24)], []⟩ ∧ F87_l0 N a0 p1 k x23 x24 = some r) N [.ren [0, 1, 7, 8] []] ⟨(a0.length : Int), (0 : Int), rfl, h⟩ ?_
  rintro k29 s ⟨x23, x24, rfl, h⟩
  cases k29 with
  | zero => cases show none = some r from h
  | succ k29 =>
   replace h : F87_l0_b N a0 p1 (F87_l0 N a0 p1 k29) x23 x24 = some r := h
   unfold F87_l0_b at h
   refine nR K (tn 1) <| sq ?_
   refine cnd h ?_ ?_<;>intro h
   ·refine VW.skip <| sq <| VW.block <| nR K (tn 2) <| sq <| VW.region ?_
    obtain⟨g32,h⟩:=gS h
    refine nG K 5 (pu 3 (an g32 (tn 1))) ?_
    obtain⟨y33,hy,h⟩:=aS h
    refine clc false [.t Y50] [] (some 16) K (hp1 _ _ hy) <| nN K (tn 0) ?_
    refine cnd h ?_ ?_<;>intro h
    ·refine nR K (tn 2) ?_
     cases h; exact VW.ret (rt [])
    refine VW.skip <| nE K (tn 2) ?_
    exact aro [.ren [0, 1, 7, 8] []] ⟨x23, (wr (x24 + (1 : Int))), rfl, h⟩
   refine VW.exit ?_
   exact arv [.ren [] []] ⟨rfl, h⟩
 rintro s ⟨rfl, h⟩
 unfold F87_j0 at h
 refine nR K (tn 1) ?_
 cases h; exact VW.ret (rt [])
def F48 (N : Nat) (a0 : (List Z50)) (p1 : Z50 → Option (Bool)) : Option (Bool) :=
  andO (F87 N a0 p1) fun y1 => some (decide (y1 ≥ (0 : Int)))
theorem ok48 N a0 (g1 : FuncId) (p1 : Z50 → Option (Bool)) (hp1 : ∀ (z0 : Z50) (r : Bool), p1 z0 = some r → Con prog g1 [.agg (lv Y50 z0)] [.lf (.v .bool r)]) {r} (h : F48 N a0 p1 = some r) : Con prog 48 [Vv (.sl Y50) a0, .clo g1 []] [.lf (.v .bool r)] := by
 refine ctr [.lf (.v .bool)] K func48 rfl fun w0 E0 ht => ?_
 unfold F48 at h
 show VW _ _ _ _ _ (retQ _ _ _ _) _
 refine nR K (tn 1) <| sq <| VW.region <| nG K 2 (tn 2) ?_
 obtain⟨y1,hy,h⟩:=aS h
 refine clc false [.t (.sl Y50), .clo []] [] (some 7) K (ok87 N _ g1  p1 hp1 hy) <| nN K (tn 2) ?_
 cases h; exact VW.ret (rt [])
def F80 (N : Nat) (a0 : Int) (a1 : Int) (a2 : Int) : Option (Bool) :=
  cond (decide (a0 ≥ a1)) (some (decide (a0 ≤ a2))) (some false)
theorem ok80 N a0 a1 a2 {r} (h : F80 N a0 a1 a2 = some r) : Con prog 80 [I a0, I a1, I a2] [.lf (.v .bool r)] := by
 refine ctr [.lf (.v .bool)] K func80 rfl fun w0 E0 ht => ?_
 unfold F80 at h
 show VW _ _ _ _ _ (retQ _ _ _ _) _
 refine nR K (tn 1) <| sq <| VW.region <| nG K 4 (tn 4) ?_
 refine spC 10 h ?_ ?_<;>intro h
 ·refine nN K (tn 5) ?_
  cases h; exact VW.ret (rt [])
 refine nN K (tn 5) ?_
 cases h; exact VW.ret (rt [])
def F70_j0 (N : Nat) : Option (Bool) :=
  some true
def F70_l0_b (N : Nat) (a0 : (List Int)) (a1 : (List Int)) (nx29 : Int → Int → Option (Bool)) (x23 : Int) (x24 : Int) : Option (Bool) :=
  cond (decide (x24 < x23)) (gd (InR x24 a0.length) (gd (InR x24 a1.length) (cond ((a0.getD x24.toNat (Ty.dflt (.int .i64))) != (a1.getD x24.toNat (Ty.dflt (.int .i64)))) (some false) (nx29 x23 (IntKind.i64.wrap (x24 + (1 : Int))))))) (F70_j0 N)
def F70_l0 (N : Nat) (a0 : (List Int)) (a1 : (List Int)) := loopF (F70_l0_b N a0 a1) (fun _ _ => none)
theorem F70_l0_s N a0 a1 {k} (hk : 0 < k) x23 x24 : F70_l0 N a0 a1 k x23 x24 = F70_l0_b N a0 a1 (F70_l0 N a0 a1 (k - 1)) x23 x24 := by cases k;cases hk;rfl
def F70 (N : Nat) (a0 : (List Int)) (a1 : (List Int)) : Option (Bool) :=
  cond ((a0.length : Int) != (a1.length : Int)) (some false) (F70_l0 N a0 a1 N (a0.length : Int) (0 : Int))
theorem ok70 N a0 a1 {r} (h : F70 N a0 a1 = some r) : Con prog 70 [Vv (.sl (.int .i64)) a0, Vv (.sl (.int .i64)) a1] [.lf (.v .bool r)] := by
 refine ctr [.lf (.v .bool)] K func70 rfl fun w0 E0 ht => ?_
 unfold F70 at h
 show VW _ _ _ _ _ (retQ _ _ _ _) _
 refine nR K (tn 1) <| sq <| nR K (tn 5) ?_
 refine cnd h ?_ ?_<;>intro h
 ·refine nR K (tn 1) ?_
  cases h; exact VW.ret (rt [])
 refine VW.skip ?_
 refine VW.join (fun s => s = ⟨[], []⟩ ∧ F70_j0 N = some r) ?_ ?_
 ·refine nR K (tn 3) <| VW.block <| lop (fun k s => ∃ x23 x24, s = ⟨[(0, Vv (.sl (.int .i64)) a0), (1, Vv (.sl (.int .i64)) a1), (12, I x23), (13, I x24)], []⟩ ∧ F70_l0 N a0 a1 k x23 x24 = some r) N [.ren [0, 1, 12, 13] []] ⟨(a0.length : Int), (0 : Int), rfl, h⟩ ?_
  rintro k29 s ⟨x23, x24, rfl, h⟩
  cases k29 with
  | zero => cases show none = some r from h
  | succ k29 =>
   replace h : F70_l0_b N a0 a1 (F70_l0 N a0 a1 k29) x23 x24 = some r := h
   unfold F70_l0_b at h
   refine nR K (tn 1) <| sq ?_
   refine cnd h ?_ ?_<;>intro h
   ·refine VW.skip <| sq <| VW.block <| nR K (tn 2) <| sq ?_
    obtain⟨g32,h⟩:=gS h
    obtain⟨g33,h⟩:=gS h
    refine dr K [] [] [] [0, 1, 12, 13, 24] [] (pu 2 (an g32 (pu 3 (an g33 (tn 2))))) trivial ?_
    refine cnd h ?_ ?_<;>intro h
    ·refine nR K (tn 1) ?_
     cases h; exact VW.ret (rt [])
    refine VW.skip <| nE K (tn 2) ?_
    exact aro [.ren [0, 1, 12, 13] []] ⟨x23, (wr (x24 + (1 : Int))), rfl, h⟩
   refine VW.exit ?_
   exact arv [.ren [] []] ⟨rfl, h⟩
 rintro s ⟨rfl, h⟩
 unfold F70_j0 at h
 refine nR K (tn 1) ?_
 cases h; exact VW.ret (rt [])
def F43 (N : Nat) (a0 : Z50) (a1 : Z50) : Option (Bool) :=
  cond (a0.1 == a1.1) (cond (a0.2.1.toList == a1.2.1.toList) (cond (a0.2.2.1 == a1.2.2.1) (cond (a0.2.2.2.1 == a1.2.2.2.1) (cond (a0.2.2.2.2.1 == a1.2.2.2.2.1) (cond (a0.2.2.2.2.2.1 == a1.2.2.2.2.2.1) (andO (F70 N a0.2.2.2.2.2.2 a1.2.2.2.2.2.2) fun y1 => some y1) (some false)) (some false)) (some false)) (some false)) (some false)) (some false)
theorem ok43 N a0 a1 {r} (h : F43 N a0 a1 = some r) : Con prog 43 [.agg (lv Y50 a0), .agg (lv Y50 a1)] [.lf (.v .bool r)] := by
 refine ctr [.lf (.v .bool)] K func43 rfl fun w0 E0 ht => ?_
 unfold F43 at h
 show VW _ _ _ _ _ (retQ _ _ _ _) _
 refine nR K (tn 3) <| sq <| VW.region <| nG K 6 (tn 6) ?_
 refine spC 10 h ?_ ?_<;>intro h
 ·refine nG K 7 (tn 7) ?_
  refine spC 17 h ?_ ?_<;>intro h
  ·refine nG K 7 (tn 7) ?_
   refine spC 24 h ?_ ?_<;>intro h
   ·refine nG K 7 (tn 7) ?_
    refine spC 31 h ?_ ?_<;>intro h
    ·refine nG K 7 (tn 7) ?_
     refine spC 38 h ?_ ?_<;>intro h
     ·refine nG K 7 (tn 7) ?_
      refine spC 45 h ?_ ?_<;>intro h
      ·refine nG K 4 (tn 4) <| VO.on (j := 40) (want := true) (d := 45) (b := true) rfl rfl rfl (by kernel_rfl) rfl ?_
       obtain⟨y1,hy,h⟩:=aS h
       refine clc false [.t (.sl (.int .i64)), .t (.sl (.int .i64))] [] (some 50) K (ok70 N _ _ hy) <| nN K (tn 2) ?_
       cases h; exact VW.ret (rt [])
      refine nN K (tn 7) ?_
      cases h; exact VW.ret (rt [])
     refine nN K (tn 14) ?_
     cases h; exact VW.ret (rt [])
    refine nN K (tn 21) ?_
    cases h; exact VW.ret (rt [])
   refine nN K (tn 28) ?_
   cases h; exact VW.ret (rt [])
  refine nN K (tn 35) ?_
  cases h; exact VW.ret (rt [])
 refine nN K (tn 42) ?_
 cases h; exact VW.ret (rt [])
def F167_j0 (N : Nat) : Option (Int) :=
  some (-1 : Int)
def F167_l0_b (N : Nat) (a0 : (List Int)) (p1 : Int → Option (Bool)) (nx29 : Int → Int → Option (Int)) (x23 : Int) (x24 : Int) : Option (Int) :=
  cond (decide (x24 < x23)) (gd (InR x24 a0.length) (andO (p1 (a0.getD x24.toNat (Ty.dflt (.int .i64)))) fun y33 => cond y33 (some x24) (nx29 x23 (IntKind.i64.wrap (x24 + (1 : Int)))))) (F167_j0 N)
def F167_l0 (N : Nat) (a0 : (List Int)) (p1 : Int → Option (Bool)) := loopF (F167_l0_b N a0 p1) (fun _ _ => none)
theorem F167_l0_s N a0 (p1 : Int → Option (Bool)) {k} (hk : 0 < k) x23 x24 : F167_l0 N a0 p1 k x23 x24 = F167_l0_b N a0 p1 (F167_l0 N a0 p1 (k - 1)) x23 x24 := by cases k;cases hk;rfl
def F167 (N : Nat) (a0 : (List Int)) (p1 : Int → Option (Bool)) : Option (Int) :=
  F167_l0 N a0 p1 N (a0.length : Int) (0 : Int)
theorem ok167 N a0 (g1 : FuncId) (p1 : Int → Option (Bool)) (hp1 : ∀ (z0 : Int) (r : Bool), p1 z0 = some r → Con prog g1 [I z0] [.lf (.v .bool r)]) {r} (h : F167 N a0 p1 = some r) : Con prog 167 [Vv (.sl (.int .i64)) a0, .clo g1 []] [.lf (.v (.int .i64) r)] := by
 refine ctr [.lf (.v (.int .i64))] K func167 rfl fun w0 E0 ht => ?_
 unfold F167 at h
 show VW _ _ _ _ _ (retQ _ _ _ _) _
 refine nR K (tn 1) ?_
 refine VW.join (fun s => s = ⟨[], []⟩ ∧ F167_j0 N = some r) ?_ ?_
 ·refine nR K (tn 3) <| VW.block <| lop (fun k s => ∃ x23 x24, s = ⟨[(0, Vv (.sl (.int .i64)) a0), (1, .clo g1 []), (7, I x23), (8, I x24)], []⟩ ∧ F167_l0 N a0 p1 k x23 x24 = some r) N [.ren [0, 1, 7, 8] []] ⟨(a0.length : Int), (0 : Int), rfl, h⟩ ?_
  rintro k29 s ⟨x23, x24, rfl, h⟩
  cases k29 with
  | zero => cases show none = some r from h
  | succ k29 =>
   replace h : F167_l0_b N a0 p1 (F167_l0 N a0 p1 k29) x23 x24 = some r := h
   unfold F167_l0_b at h
   refine nR K (tn 1) <| sq ?_
   refine cnd h ?_ ?_<;>intro h
   ·refine VW.skip <| sq <| VW.block <| nR K (tn 2) <| sq <| VW.region ?_
    obtain⟨g32,h⟩:=gS h
    refine nG K 5 (pu 3 (an g32 (tn 1))) ?_
    obtain⟨y33,hy,h⟩:=aS h
    refine clc false [.t (.int .i64)] [] (some 16) K (hp1 _ _ hy) <| nN K (tn 0) ?_
    refine cnd h ?_ ?_<;>intro h
    ·refine nR K (tn 2) ?_
     cases h; exact VW.ret (rt [])
    refine VW.skip <| nE K (tn 2) ?_
    exact aro [.ren [0, 1, 7, 8] []] ⟨x23, (wr (x24 + (1 : Int))), rfl, h⟩
   refine VW.exit ?_
   exact arv [.ren [] []] ⟨rfl, h⟩
 rintro s ⟨rfl, h⟩
 unfold F167_j0 at h
 refine nR K (tn 1) ?_
 cases h; exact VW.ret (rt [])
def F114 (N : Nat) (a0 : (List Int)) (p1 : Int → Option (Bool)) : Option (Bool) :=
  andO (F167 N a0 p1) fun y1 => some (decide (y1 ≥ (0 : Int)))
theorem ok114 N a0 (g1 : FuncId) (p1 : Int → Option (Bool)) (hp1 : ∀ (z0 : Int) (r : Bool), p1 z0 = some r → Con prog g1 [I z0] [.lf (.v .bool r)]) {r} (h : F114 N a0 p1 = some r) : Con prog 114 [Vv (.sl (.int .i64)) a0, .clo g1 []] [.lf (.v .bool r)] := by
 refine ctr [.lf (.v .bool)] K func114 rfl fun w0 E0 ht => ?_
 unfold F114 at h
 show VW _ _ _ _ _ (retQ _ _ _ _) _
 refine nR K (tn 1) <| sq <| VW.region <| nG K 2 (tn 2) ?_
 obtain⟨y1,hy,h⟩:=aS h
 refine clc false [.t (.sl (.int .i64)), .clo []] [] (some 7) K (ok167 N _ g1  p1 hp1 hy) <| nN K (tn 2) ?_
 cases h; exact VW.ret (rt [])
def F127_j0 (N : Nat) (a0 : ByteArray) : Option (Bool) :=
  andO (F80 N (a0.size : Int) (1 : Int) (12 : Int)) fun y14 => some y14
def F127_j1 (N : Nat) (nx25 : Int → Int → Option (Bool)) (x20 : Int) (x21 : Int) : Option (Bool) :=
  nx25 x20 (IntKind.i64.wrap (x21 + (1 : Int)))
def F127_l0_b (N : Nat) (a0 : ByteArray) (nx25 : Int → Int → Option (Bool)) (x20 : Int) (x21 : Int) : Option (Bool) :=
  cond (decide (x21 < x20)) (gd (InR x21 a0.size) (cond (decide (((a0.data.getD x21.toNat 0).toNat : Int) ≥ (97 : Int))) (cond (!(decide (((a0.data.getD x21.toNat 0).toNat : Int) ≤ (122 : Int)))) (cond (x21 == (0 : Int)) (some false) (cond (decide (((a0.data.getD x21.toNat 0).toNat : Int) < (48 : Int))) (some false) (cond (decide (((a0.data.getD x21.toNat 0).toNat : Int) > (57 : Int))) (some false) (F127_j1 N nx25 x20 x21)))) (F127_j1 N nx25 x20 x21)) (cond (x21 == (0 : Int)) (some false) (cond (decide (((a0.data.getD x21.toNat 0).toNat : Int) < (48 : Int))) (some false) (cond (decide (((a0.data.getD x21.toNat 0).toNat : Int) > (57 : Int))) (some false) (F127_j1 N nx25 x20 x21)))))) (F127_j0 N a0)
def F127_l0 (N : Nat) (a0 : ByteArray) := loopF (F127_l0_b N a0) (fun _ _ => none)
theorem F127_l0_s N a0 {k} (hk : 0 < k) x20 x21 : F127_l0 N a0 k x20 x21 = F127_l0_b N a0 (F127_l0 N a0 (k - 1)) x20 x21 := by cases k;cases hk;rfl
def F127 (N : Nat) (a0 : ByteArray) : Option (Bool) :=
  F127_l0 N a0 N (a0.size : Int) (0 : Int)
theorem ok127 N a0 {r} (h : F127 N a0 = some r) : Con prog 127 [S a0] [.lf (.v .bool r)] := by
 refine ctr [.lf (.v .bool)] K func127 rfl fun w0 E0 ht => ?_
 unfold F127 at h
 show VW _ _ _ _ _ (retQ _ _ _ _) _
 refine nR K (tn 1) ?_
 refine VW.join (fun s => s = ⟨[(0, S a0)], []⟩ ∧ F127_j0 N a0 = some r) ?_ ?_
 ·refine nR K (tn 3) <| VW.block <| lop (fun k s => ∃ x20 x21, s = ⟨[(0, S a0), (7, I x20), (8, I x21)], []⟩ ∧ F127_l0 N a0 k x20 x21 = some r) N [.ren [0, 7, 8] []] ⟨(a0.size : Int), (0 : Int), rfl, h⟩ ?_
  rintro k25 s ⟨x20, x21, rfl, h⟩
  cases k25 with
  | zero => cases show none = some r from h
  | succ k25 =>
   replace h : F127_l0_b N a0 (F127_l0 N a0 k25) x20 x21 = some r := h
   unfold F127_l0_b at h
   refine nR K (tn 1) <| sq ?_
   refine cnd h ?_ ?_<;>intro h
   ·refine VW.skip ?_
    refine VW.join (fun s => s = ⟨[(0, S a0), (7, I x20), (8, I x21)], []⟩ ∧ F127_j1 N (F127_l0 N a0 k25) x20 x21 = some r) ?_ ?_
    ·refine VW.block <| nR K (tn 2) ?_
     obtain⟨g28,h⟩:=gS h
     refine nR K (pu 2 (an g28 (tn 1))) <| sq <| VW.region <| nG K 3 (tn 3) ?_
     refine spC 16 h ?_ ?_<;>intro h
     ·refine nN K (tn 4) <| sq <| VW.region <| nG K 3 (tn 3) ?_
      refine spC 22 h ?_ ?_<;>intro h
      ·refine nG K 3 (tn 3) ?_
       refine spC 25 h ?_ ?_<;>intro h
       ·refine nN K (tn 8) ?_
        refine VW.cond (b := true) (by kernel_rfl) (fun _ => ?_) (fun h' => nomatch h')
        refine nR K (tn 1) ?_
        cases h; exact VW.ret (rt [])
       refine nG K 4 (tn 4) ?_
       refine spC 29 h ?_ ?_<;>intro h
       ·refine nN K (tn 4) ?_
        refine VW.cond (b := true) (by kernel_rfl) (fun _ => ?_) (fun h' => nomatch h')
        refine nR K (tn 1) ?_
        cases h; exact VW.ret (rt [])
       refine nN K (tn 4) ?_
       refine cnd h ?_ ?_<;>intro h
       ·refine nR K (tn 1) ?_
        cases h; exact VW.ret (rt [])
       refine VW.skip ?_
       exact arv [.ren [0, 7, 8] []] ⟨rfl, h⟩
      refine nN K (tn 11) ?_
      refine VW.cond (b := false) (by kernel_rfl) (fun h' => nomatch h') (fun _ => ?_)
      refine VW.skip ?_
      exact arv [.ren [0, 7, 8] []] ⟨rfl, h⟩
     refine nN K (tn 4) <| sq <| VW.region <| nG K 6 (tn 6) ?_
     refine spC 25 h ?_ ?_<;>intro h
     ·refine nN K (tn 8) ?_
      refine VW.cond (b := true) (by kernel_rfl) (fun _ => ?_) (fun h' => nomatch h')
      refine nR K (tn 1) ?_
      cases h; exact VW.ret (rt [])
     refine nG K 4 (tn 4) ?_
     refine spC 29 h ?_ ?_<;>intro h
     ·refine nN K (tn 4) ?_
      refine VW.cond (b := true) (by kernel_rfl) (fun _ => ?_) (fun h' => nomatch h')
      refine nR K (tn 1) ?_
      cases h; exact VW.ret (rt [])
     refine nN K (tn 4) ?_
     refine cnd h ?_ ?_<;>intro h
     ·refine nR K (tn 1) ?_
      cases h; exact VW.ret (rt [])
     refine VW.skip ?_
     exact arv [.ren [0, 7, 8] []] ⟨rfl, h⟩
    rintro s ⟨rfl, h⟩
    unfold F127_j1 at h
    refine nE K (tn 2) ?_
    exact aro [.ren [0, 7, 8] []] ⟨x20, (wr (x21 + (1 : Int))), rfl, h⟩
   refine VW.exit ?_
   exact arv [.ren [0] []] ⟨rfl, h⟩
 rintro s ⟨rfl, h⟩
 unfold F127_j0 at h
 refine sq <| VW.region <| nG K 2 (tn 2) ?_
 obtain⟨y14,hy,h⟩:=aS h
 refine clc false [.t (.int .i64), .t (.int .i64), .t (.int .i64)] [] (some 37) K (ok80 N _ _ _ hy) <| nN K (tn 1) ?_
 cases h; exact VW.ret (rt [])
def F131 (N : Nat) (a0 : Int) : Option (Bool) :=
  andO (F80 N a0 (0 : Int) (63 : Int)) fun y1 => some y1
theorem ok131 N a0 {r} (h : F131 N a0 = some r) : Con prog 131 [I a0] [.lf (.v .bool r)] := by
 refine ctr [.lf (.v .bool)] K func131 rfl fun w0 E0 ht => ?_
 unfold F131 at h
 show VW _ _ _ _ _ (retQ _ _ _ _) _
 refine nR K (tn 1) <| sq <| VW.region <| nG K 1 (tn 1) ?_
 obtain⟨y1,hy,h⟩:=aS h
 refine clc false [.t (.int .i64), .t (.int .i64), .t (.int .i64)] [] (some 4) K (ok80 N _ _ _ hy) <| nN K (tn 1) ?_
 cases h; exact VW.ret (rt [])
def F132 (N : Nat) (a0 : Int) : Option (Bool) :=
  andO (F80 N a0 (0 : Int) (39 : Int)) fun y1 => some y1
theorem ok132 N a0 {r} (h : F132 N a0 = some r) : Con prog 132 [I a0] [.lf (.v .bool r)] := by
 refine ctr [.lf (.v .bool)] K func132 rfl fun w0 E0 ht => ?_
 unfold F132 at h
 show VW _ _ _ _ _ (retQ _ _ _ _) _
 refine nR K (tn 1) <| sq <| VW.region <| nG K 1 (tn 1) ?_
 obtain⟨y1,hy,h⟩:=aS h
 refine clc false [.t (.int .i64), .t (.int .i64), .t (.int .i64)] [] (some 4) K (ok80 N _ _ _ hy) <| nN K (tn 1) ?_
 cases h; exact VW.ret (rt [])
def F133 (N : Nat) (a0 : Int) : Option (Bool) :=
  andO (F80 N a0 (-1000000 : Int) (1000000 : Int)) fun y1 => some y1
theorem ok133 N a0 {r} (h : F133 N a0 = some r) : Con prog 133 [I a0] [.lf (.v .bool r)] := by
 refine ctr [.lf (.v .bool)] K func133 rfl fun w0 E0 ht => ?_
 unfold F133 at h
 show VW _ _ _ _ _ (retQ _ _ _ _) _
 refine nR K (tn 1) <| sq <| VW.region <| nG K 1 (tn 1) ?_
 obtain⟨y1,hy,h⟩:=aS h
 refine clc false [.t (.int .i64), .t (.int .i64), .t (.int .i64)] [] (some 4) K (ok80 N _ _ _ hy) <| nN K (tn 1) ?_
 cases h; exact VW.ret (rt [])
def F134 (N : Nat) (a0 : Int) : Option (Bool) :=
  andO (F131 N a0) fun y1 => some (!y1)
theorem ok134 N a0 {r} (h : F134 N a0 = some r) : Con prog 134 [I a0] [.lf (.v .bool r)] := by
 refine ctr [.lf (.v .bool)] K func134 rfl fun w0 E0 ht => ?_
 unfold F134 at h
 show VW _ _ _ _ _ (retQ _ _ _ _) _
 refine nR K (tn 1) <| sq <| VW.region <| nG K 1 (tn 1) ?_
 obtain⟨y1,hy,h⟩:=aS h
 refine clc false [.t (.int .i64)] [] (some 4) K (ok131 N _ hy) <| nN K (tn 2) ?_
 cases h; exact VW.ret (rt [])
def F82_j0 (N : Nat) (x38 : ByteArray) (x39 : Int) (x40 : Int) (x41 : Int) (x42 : Bool) (x43 : (List Int)) (x44 : Bool) : Option (Bool) :=
  cond x44 (andO (F43 N ((0 : Int), (x38, (x39, (x40, (x41, (x42, x43)))))) ((0 : Int), (ByteArray.empty, ((0 : Int), ((0 : Int), ((0 : Int), (false, []))))))) fun y45 => some y45) (some false)
def F82_j1 (N : Nat) (x52 : ByteArray) (x53 : Int) (x54 : Int) (x55 : Int) (x56 : Bool) (x57 : (List Int)) (x58 : Bool) : Option (Bool) :=
  F82_j0 N x52 (0 : Int) (0 : Int) (0 : Int) false x57 x58
def F82_j2 (N : Nat) (x62 : ByteArray) (x63 : Int) (x64 : Int) (x65 : Int) (x66 : Bool) (x67 : (List Int)) : Option (Bool) :=
  F82_j0 N x62 (0 : Int) (0 : Int) (0 : Int) false x67 false
def F82_j3 (N : Nat) (x76 : ByteArray) (x77 : Int) (x78 : Int) (x79 : Int) (x80 : Bool) (x81 : (List Int)) (x82 : Bool) : Option (Bool) :=
  cond x82 (F82_j0 N x76 x77 x78 x79 x80 x81 true) (F82_j0 N x76 x77 x78 x79 x80 x81 false)
def F82 (N : Nat) (a0 : Z50) : Option (Bool) :=
  cond (a0.1 == (0 : Int)) (andO (F127 N a0.2.1) fun y47 => F82_j0 N ByteArray.empty a0.2.2.1 a0.2.2.2.1 a0.2.2.2.2.1 a0.2.2.2.2.2.1 a0.2.2.2.2.2.2 y47) (cond (a0.1 == (1 : Int)) (andO (F131 N a0.2.2.1) fun y48 => cond y48 (andO (F80 N a0.2.2.2.1 (0 : Int) (3 : Int)) fun y49 => cond (a0.2.2.2.1 == (3 : Int)) (cond y49 (cond (a0.2.2.2.2.1 == (0 : Int)) (F82_j1 N a0.2.1 a0.2.2.1 a0.2.2.2.1 a0.2.2.2.2.1 a0.2.2.2.2.2.1 a0.2.2.2.2.2.2 (!a0.2.2.2.2.2.1)) (F82_j1 N a0.2.1 a0.2.2.1 a0.2.2.2.1 a0.2.2.2.2.1 a0.2.2.2.2.2.1 a0.2.2.2.2.2.2 false)) (F82_j1 N a0.2.1 a0.2.2.1 a0.2.2.2.1 a0.2.2.2.2.1 a0.2.2.2.2.2.1 a0.2.2.2.2.2.2 false)) (cond a0.2.2.2.2.2.1 (cond y49 (andO (F132 N a0.2.2.2.2.1) fun y60 => F82_j1 N a0.2.1 a0.2.2.1 a0.2.2.2.1 a0.2.2.2.2.1 a0.2.2.2.2.2.1 a0.2.2.2.2.2.2 y60) (F82_j1 N a0.2.1 a0.2.2.1 a0.2.2.2.1 a0.2.2.2.2.1 a0.2.2.2.2.2.1 a0.2.2.2.2.2.2 false)) (cond y49 (andO (F133 N a0.2.2.2.2.1) fun y61 => F82_j1 N a0.2.1 a0.2.2.1 a0.2.2.2.1 a0.2.2.2.2.1 a0.2.2.2.2.2.1 a0.2.2.2.2.2.2 y61) (F82_j1 N a0.2.1 a0.2.2.1 a0.2.2.2.1 a0.2.2.2.2.1 a0.2.2.2.2.2.1 a0.2.2.2.2.2.2 false)))) (cond (a0.2.2.2.1 == (3 : Int)) (F82_j2 N a0.2.1 a0.2.2.1 a0.2.2.2.1 a0.2.2.2.2.1 a0.2.2.2.2.2.1 a0.2.2.2.2.2.2) (cond a0.2.2.2.2.2.1 (F82_j2 N a0.2.1 a0.2.2.1 a0.2.2.2.1 a0.2.2.2.2.1 a0.2.2.2.2.2.1 a0.2.2.2.2.2.2) (F82_j2 N a0.2.1 a0.2.2.1 a0.2.2.2.1 a0.2.2.2.2.1 a0.2.2.2.2.2.1 a0.2.2.2.2.2.2)))) (cond (a0.1 == (2 : Int)) (andO (F80 N (a0.2.2.2.2.2.2.length : Int) (1 : Int) (6 : Int)) fun y69 => cond y69 (andO (F114 N a0.2.2.2.2.2.2 (fun z0 => F134 N z0)) fun y70 => F82_j0 N a0.2.1 a0.2.2.1 a0.2.2.2.1 a0.2.2.2.2.1 a0.2.2.2.2.2.1 ([]) (!y70)) (F82_j0 N a0.2.1 a0.2.2.1 a0.2.2.2.1 a0.2.2.2.2.1 a0.2.2.2.2.2.1 ([]) false)) (cond (a0.1 == (3 : Int)) (andO (F131 N a0.2.2.1) fun y71 => cond y71 (andO (F131 N a0.2.2.2.2.1) fun y72 => F82_j0 N a0.2.1 (0 : Int) a0.2.2.2.1 (0 : Int) a0.2.2.2.2.2.1 a0.2.2.2.2.2.2 y72) (F82_j0 N a0.2.1 (0 : Int) a0.2.2.2.1 (0 : Int) a0.2.2.2.2.2.1 a0.2.2.2.2.2.2 false)) (cond (a0.1 == (5 : Int)) (andO (F131 N a0.2.2.1) fun y73 => F82_j0 N a0.2.1 (0 : Int) a0.2.2.2.1 a0.2.2.2.2.1 a0.2.2.2.2.2.1 a0.2.2.2.2.2.2 y73) (cond (a0.1 == (6 : Int)) (andO (F80 N a0.2.2.2.2.1 (0 : Int) (1000000 : Int)) fun y74 => cond y74 (cond (!a0.2.2.2.2.2.1) (F82_j0 N a0.2.1 a0.2.2.1 a0.2.2.2.1 (0 : Int) false a0.2.2.2.2.2.2 true) (andO (F132 N a0.2.2.2.2.1) fun y75 => F82_j0 N a0.2.1 a0.2.2.1 a0.2.2.2.1 (0 : Int) false a0.2.2.2.2.2.2 y75)) (F82_j0 N a0.2.1 a0.2.2.1 a0.2.2.2.1 (0 : Int) false a0.2.2.2.2.2.2 false)) (cond (a0.1 == (4 : Int)) (F82_j3 N a0.2.1 a0.2.2.1 a0.2.2.2.1 a0.2.2.2.2.1 a0.2.2.2.2.2.1 a0.2.2.2.2.2.2 (a0.1 == (4 : Int))) (F82_j3 N a0.2.1 a0.2.2.1 a0.2.2.2.1 a0.2.2.2.2.1 a0.2.2.2.2.2.1 a0.2.2.2.2.2.2 (a0.1 == (7 : Int)))))))))
theorem ok82 N a0 {r} (h : F82 N a0 = some r) : Con prog 82 [.agg (lv Y50 a0)] [.lf (.v .bool r)] := by
 refine ctr [.lf (.v .bool)] K func82 rfl fun w0 E0 ht => ?_
 unfold F82 at h
 show VW _ _ _ _ _ (retQ _ _ _ _) _
 refine nR K (tn 2) <| nR K (tn 3) <| nR K (tn 2) <| nR K (tn 1) ?_
 refine VW.join (fun s => ∃ x38 x39 x40 x41 x42 x43 x44, s = ⟨[(3, .lf (.ptr 0 0 0 0)), (4, B x44)], [bx [zi (0 : Int), zs x38, zi x39, zi x40, zi x41, zb x42, .v (.sl (.int .i64)) x43] 51]⟩ ∧ F82_j0 N x38 x39 x40 x41 x42 x43 x44 = some r) ?_ ?_
 ·refine nR K (tn 2) <| VW.block <| nR K (tn 2) ?_
  refine cnd h ?_ ?_<;>intro h
  ·refine sq <| VW.region <| nG K 2 (tn 2) ?_
   obtain⟨y47,hy,h⟩:=aS h
   refine clc false [.t .str] [] (some 13) K (ok127 N _ hy) <| nN K (tn 1) <| nE K (tn 2) ?_
   exact arv [.ren [3, 4] [1]] ⟨ByteArray.empty, a0.2.2.1, a0.2.2.2.1, a0.2.2.2.2.1, a0.2.2.2.2.2.1, a0.2.2.2.2.2.2, y47, rfl, h⟩
  refine nR K (tn 2) ?_
  refine cnd h ?_ ?_<;>intro h
  ·refine sq <| VW.region <| nG K 2 (tn 2) ?_
   obtain⟨y48,hy,h⟩:=aS h
   refine clc false [.t (.int .i64)] [] (some 19) K (ok131 N _ hy) <| nG K 1 (tn 1) ?_
   refine spC 20 h ?_ ?_<;>intro h
   ·refine nG K 2 (tn 2) <| VO.on (j := 3) (want := true) (d := 20) (b := true) rfl rfl rfl (by kernel_rfl) rfl ?_
    obtain⟨y49,hy,h⟩:=aS h
    refine clc false [.t (.int .i64), .t (.int .i64), .t (.int .i64)] [] (some 23) K (ok80 N _ _ _ hy) <| nN K (tn 2) ?_
    refine VW.join (fun s => ∃ x52 x53 x54 x55 x56 x57 x58, s = ⟨[(3, .lf (.ptr 0 0 0 0)), (4, B x58)], [bx [zi (0 : Int), zs x52, zi x53, zi x54, zi x55, zb x56, .v (.sl (.int .i64)) x57] 51]⟩ ∧ F82_j1 N x52 x53 x54 x55 x56 x57 x58 = some r) ?_ ?_
    ·refine VW.block <| nR K (tn 4) ?_
     refine cnd h ?_ ?_<;>intro h
     ·refine VW.region <| sGh K 2 [1, 3, 36] [0, 1] [(1, .lf (.ptr 0 0 0 0)), (3, .lf (.ptr 1 0 0 0)), (36, B y49)] (tn 2) ?_
      refine spC 36 h ?_ ?_<;>intro h
      ·refine nG K 5 (tn 5) ?_
       refine spC 41 h ?_ ?_<;>intro h
       ·refine nN K (tn 5) ?_
        exact arv [.ren [3, 4] [1]] ⟨a0.2.1, a0.2.2.1, a0.2.2.2.1, a0.2.2.2.2.1, a0.2.2.2.2.2.1, a0.2.2.2.2.2.2, (!a0.2.2.2.2.2.1), rfl, h⟩
       refine nN K (tn 5) ?_
       exact arv [.ren [3, 4] [1]] ⟨a0.2.1, a0.2.2.1, a0.2.2.2.1, a0.2.2.2.2.1, a0.2.2.2.2.2.1, a0.2.2.2.2.2.2, false, rfl, h⟩
      refine nN K (tn 10) ?_
      exact arv [.ren [3, 4] [1]] ⟨a0.2.1, a0.2.2.1, a0.2.2.2.1, a0.2.2.2.2.1, a0.2.2.2.2.2.1, a0.2.2.2.2.2.2, false, rfl, h⟩
     refine sRh K [1, 3, 4, 46] [0, 1] [(1, .lf (.ptr 0 0 0 0)), (3, .lf (.ptr 1 0 0 0)), (4, B y49), (46, B a0.2.2.2.2.2.1)] (tn 3) ?_
     refine cnd h ?_ ?_<;>intro h
     ·refine VW.region <| nG K 2 (tn 2) ?_
      refine spC 50 h ?_ ?_<;>intro h
      ·refine nG K 2 (tn 2) <| VO.on (j := 1) (want := true) (d := 50) (b := true) rfl rfl rfl (by kernel_rfl) rfl ?_
       obtain⟨y60,hy,h⟩:=aS h
       refine clc false [.t (.int .i64)] [] (some 53) K (ok132 N _ hy) <| nN K (tn 2) ?_
       exact arv [.ren [3, 4] [1]] ⟨a0.2.1, a0.2.2.1, a0.2.2.2.1, a0.2.2.2.2.1, a0.2.2.2.2.2.1, a0.2.2.2.2.2.2, y60, rfl, h⟩
      refine nN K (tn 5) ?_
      exact arv [.ren [3, 4] [1]] ⟨a0.2.1, a0.2.2.1, a0.2.2.2.1, a0.2.2.2.2.1, a0.2.2.2.2.2.1, a0.2.2.2.2.2.2, false, rfl, h⟩
     refine VW.region <| nG K 2 (tn 2) ?_
     refine spC 26 h ?_ ?_<;>intro h
     ·refine nG K 2 (tn 2) <| VO.on (j := 1) (want := true) (d := 26) (b := true) rfl rfl rfl (by kernel_rfl) rfl ?_
      obtain⟨y61,hy,h⟩:=aS h
      refine clc false [.t (.int .i64)] [] (some 29) K (ok133 N _ hy) <| nN K (tn 2) ?_
      exact arv [.ren [3, 4] [1]] ⟨a0.2.1, a0.2.2.1, a0.2.2.2.1, a0.2.2.2.2.1, a0.2.2.2.2.2.1, a0.2.2.2.2.2.2, y61, rfl, h⟩
     refine nN K (tn 5) ?_
     exact arv [.ren [3, 4] [1]] ⟨a0.2.1, a0.2.2.1, a0.2.2.2.1, a0.2.2.2.2.1, a0.2.2.2.2.2.1, a0.2.2.2.2.2.2, false, rfl, h⟩
    rintro s ⟨x52, x53, x54, x55, x56, x57, x58, rfl, h⟩
    unfold F82_j1 at h
    refine nE K (tn 8) ?_
    exact arv [.ren [3, 4] [0]] ⟨x52, (0 : Int), (0 : Int), (0 : Int), false, x57, x58, rfl, h⟩
   refine nN K (tn 5) ?_
   refine VW.join (fun s => ∃ x62 x63 x64 x65 x66 x67, s = ⟨[(3, .lf (.ptr 0 0 0 0)), (4, B false)], [bx [zi (0 : Int), zs x62, zi x63, zi x64, zi x65, zb x66, .v (.sl (.int .i64)) x67] 51]⟩ ∧ F82_j2 N x62 x63 x64 x65 x66 x67 = some r) ?_ ?_
   ·refine VW.block <| nR K (tn 4) ?_
    refine cnd h ?_ ?_<;>intro h
    ·refine nE K (tn 12) ?_
     exact arv [.ren [3, 4] [1]] ⟨a0.2.1, a0.2.2.1, a0.2.2.2.1, a0.2.2.2.2.1, a0.2.2.2.2.2.1, a0.2.2.2.2.2.2, rfl, h⟩
    refine nR K (tn 3) ?_
    refine cnd h ?_ ?_<;>intro h
    ·refine rR K [3, 4] [1] ⟨[(3, .lf (.ptr 0 0 0 0)), (4, B false)], [bx [zi (0 : Int), zs a0.2.1, zi a0.2.2.1, zi a0.2.2.2.1, zi a0.2.2.2.2.1, zb a0.2.2.2.2.2.1, .v (.sl (.int .i64)) a0.2.2.2.2.2.2] 51]⟩ (tn 7) ?_
     exact arv [.ren [3, 4] [0]] ⟨a0.2.1, a0.2.2.1, a0.2.2.2.1, a0.2.2.2.2.1, a0.2.2.2.2.2.1, a0.2.2.2.2.2.2, rfl, h⟩
    refine rR K [3, 4] [1] ⟨[(3, .lf (.ptr 0 0 0 0)), (4, B false)], [bx [zi (0 : Int), zs a0.2.1, zi a0.2.2.1, zi a0.2.2.2.1, zi a0.2.2.2.2.1, zb a0.2.2.2.2.2.1, .v (.sl (.int .i64)) a0.2.2.2.2.2.2] 51]⟩ (tn 7) ?_
    exact arv [.ren [3, 4] [0]] ⟨a0.2.1, a0.2.2.1, a0.2.2.2.1, a0.2.2.2.2.1, a0.2.2.2.2.2.1, a0.2.2.2.2.2.2, rfl, h⟩
   rintro s ⟨x62, x63, x64, x65, x66, x67, rfl, h⟩
   unfold F82_j2 at h
   refine nE K (tn 8) ?_
   exact arv [.ren [3, 4] [0]] ⟨x62, (0 : Int), (0 : Int), (0 : Int), false, x67, false, rfl, h⟩
  refine nR K (tn 2) ?_
  refine cnd h ?_ ?_<;>intro h
  ·refine sq <| VW.region <| nG K 3 (tn 3) ?_
   obtain⟨y69,hy,h⟩:=aS h
   refine clc false [.t (.int .i64), .t (.int .i64), .t (.int .i64)] [] (some 64) K (ok80 N _ _ _ hy) <| nG K 1 (tn 1) ?_
   refine spC 65 h ?_ ?_<;>intro h
   ·refine nG K 2 (tn 2) <| VO.on (j := 4) (want := true) (d := 65) (b := true) rfl rfl rfl (by kernel_rfl) rfl ?_
    obtain⟨y70,hy,h⟩:=aS h
    refine clc false [.t (.sl (.int .i64)), .clo []] [] (some 68) K (ok114 N _ 134  (fun z0 => F134 N z0 ) (fun z0 _ hz => ok134 N z0 hz) hy) <| nN K (tn 3) <| rR K [3, 4] [1] ⟨[(3, .lf (.ptr 0 0 0 0)), (4, B (!y70))], [bx [zi (0 : Int), zs a0.2.1, zi a0.2.2.1, zi a0.2.2.2.1, zi a0.2.2.2.2.1, zb a0.2.2.2.2.2.1, .nil] 51]⟩ (tn 2) ?_
    exact arv [.nilB 0 6 (.int .i64), .ren [3, 4] [0]] ⟨a0.2.1, a0.2.2.1, a0.2.2.2.1, a0.2.2.2.2.1, a0.2.2.2.2.2.1, [], (!y70), rfl, h⟩
   refine nN K (tn 6) <| nE K (tn 2) ?_
   exact arv [.nilB 1 6 (.int .i64), .ren [3, 4] [1]] ⟨a0.2.1, a0.2.2.1, a0.2.2.2.1, a0.2.2.2.2.1, a0.2.2.2.2.2.1, [], false, rfl, h⟩
  refine nR K (tn 2) ?_
  refine cnd h ?_ ?_<;>intro h
  ·refine sq <| VW.region <| nG K 2 (tn 2) ?_
   obtain⟨y71,hy,h⟩:=aS h
   refine clc false [.t (.int .i64)] [] (some 76) K (ok131 N _ hy) <| nG K 1 (tn 1) ?_
   refine spC 77 h ?_ ?_<;>intro h
   ·refine nG K 2 (tn 2) <| VO.on (j := 3) (want := true) (d := 77) (b := true) rfl rfl rfl (by kernel_rfl) rfl ?_
    obtain⟨y72,hy,h⟩:=aS h
    refine clc false [.t (.int .i64)] [] (some 80) K (ok131 N _ hy) <| sN K [3, 4] [1] ⟨[(3, .lf (.ptr 0 0 0 0)), (4, B y72)], [bx [zi (0 : Int), zs a0.2.1, zi a0.2.2.1, zi a0.2.2.2.1, zi a0.2.2.2.2.1, zb a0.2.2.2.2.2.1, .v (.sl (.int .i64)) a0.2.2.2.2.2.2] 51]⟩ (tn 2) <| nE K (tn 4) ?_
    exact arv [.ren [3, 4] [0]] ⟨a0.2.1, (0 : Int), a0.2.2.2.1, (0 : Int), a0.2.2.2.2.2.1, a0.2.2.2.2.2.2, y72, rfl, h⟩
   refine nN K (tn 5) <| rR K [3, 4] [1] ⟨[(3, .lf (.ptr 0 0 0 0)), (4, B false)], [bx [zi (0 : Int), zs a0.2.1, zi (0 : Int), zi a0.2.2.2.1, zi (0 : Int), zb a0.2.2.2.2.2.1, .v (.sl (.int .i64)) a0.2.2.2.2.2.2] 51]⟩ (tn 4) ?_
   exact arv [.ren [3, 4] [0]] ⟨a0.2.1, (0 : Int), a0.2.2.2.1, (0 : Int), a0.2.2.2.2.2.1, a0.2.2.2.2.2.2, false, rfl, h⟩
  refine nR K (tn 2) ?_
  refine cnd h ?_ ?_<;>intro h
  ·refine sq <| VW.region <| nG K 2 (tn 2) ?_
   obtain⟨y73,hy,h⟩:=aS h
   refine clc false [.t (.int .i64)] [] (some 88) K (ok131 N _ hy) <| nN K (tn 1) <| rR K [3, 4] [1] ⟨[(3, .lf (.ptr 0 0 0 0)), (4, B y73)], [bx [zi (0 : Int), zs a0.2.1, zi (0 : Int), zi a0.2.2.2.1, zi a0.2.2.2.2.1, zb a0.2.2.2.2.2.1, .v (.sl (.int .i64)) a0.2.2.2.2.2.2] 51]⟩ (tn 2) ?_
   exact arv [.ren [3, 4] [0]] ⟨a0.2.1, (0 : Int), a0.2.2.2.1, a0.2.2.2.2.1, a0.2.2.2.2.2.1, a0.2.2.2.2.2.2, y73, rfl, h⟩
  refine nR K (tn 2) ?_
  refine cnd h ?_ ?_<;>intro h
  ·refine sq <| VW.region <| nG K 2 (tn 2) ?_
   obtain⟨y74,hy,h⟩:=aS h
   refine clc false [.t (.int .i64), .t (.int .i64), .t (.int .i64)] [] (some 94) K (ok80 N _ _ _ hy) <| sGh K 1 [1, 3, 95] [0, 1] [(1, .lf (.ptr 0 0 0 0)), (3, .lf (.ptr 1 0 0 0)), (95, B y74)] (tn 1) ?_
   refine spC 95 h ?_ ?_<;>intro h
   ·refine nG K 4 (tn 4) ?_
    refine spC 99 h ?_ ?_<;>intro h
    ·refine nN K (tn 6) <| nE K (tn 4) ?_
     exact arv [.ren [3, 4] [1]] ⟨a0.2.1, a0.2.2.1, a0.2.2.2.1, (0 : Int), false, a0.2.2.2.2.2.2, true, rfl, h⟩
    refine nG K 2 (tn 2) <| VO.on (j := 7) (want := false) (d := 99) (b := false) rfl rfl rfl (by kernel_rfl) rfl ?_
    obtain⟨y75,hy,h⟩:=aS h
    refine clc false [.t (.int .i64)] [] (some 102) K (ok132 N _ hy) <| nN K (tn 3) <| nE K (tn 4) ?_
    exact arv [.ren [3, 4] [1]] ⟨a0.2.1, a0.2.2.1, a0.2.2.2.1, (0 : Int), false, a0.2.2.2.2.2.2, y75, rfl, h⟩
   refine nN K (tn 10) <| nE K (tn 4) ?_
   exact arv [.ren [3, 4] [1]] ⟨a0.2.1, a0.2.2.1, a0.2.2.2.1, (0 : Int), false, a0.2.2.2.2.2.2, false, rfl, h⟩
  refine VW.join (fun s => ∃ x76 x77 x78 x79 x80 x81 x82, s = ⟨[(3, .lf (.ptr 0 0 0 0)), (4, B false), (107, B x82)], [bx [zi (0 : Int), zs x76, zi x77, zi x78, zi x79, zb x80, .v (.sl (.int .i64)) x81] 51]⟩ ∧ F82_j3 N x76 x77 x78 x79 x80 x81 x82 = some r) ?_ ?_
  ·refine nR K (tn 2) ?_
   refine cnd h ?_ ?_<;>intro h
   ·refine VW.skip ?_
    exact arv [.ren [3, 4, 107] [1]] ⟨a0.2.1, a0.2.2.1, a0.2.2.2.1, a0.2.2.2.2.1, a0.2.2.2.2.2.1, a0.2.2.2.2.2.2, (a0.1 == (4 : Int)), rfl, h⟩
   refine rR K [3, 4, 107] [1] ⟨[(3, .lf (.ptr 0 0 0 0)), (4, B false), (107, B (a0.1 == (7 : Int)))], [bx [zi (0 : Int), zs a0.2.1, zi a0.2.2.1, zi a0.2.2.2.1, zi a0.2.2.2.2.1, zb a0.2.2.2.2.2.1, .v (.sl (.int .i64)) a0.2.2.2.2.2.2] 51]⟩ (tn 2) ?_
   exact arv [.ren [3, 4, 107] [0]] ⟨a0.2.1, a0.2.2.1, a0.2.2.2.1, a0.2.2.2.2.1, a0.2.2.2.2.2.1, a0.2.2.2.2.2.2, (a0.1 == (7 : Int)), rfl, h⟩
  rintro s ⟨x76, x77, x78, x79, x80, x81, x82, rfl, h⟩
  unfold F82_j3 at h
  refine cnd h ?_ ?_<;>intro h
  ·refine nE K (tn 1) ?_
   exact arv [.ren [3, 4] [0]] ⟨x76, x77, x78, x79, x80, x81, true, rfl, h⟩
  refine VW.skip ?_
  exact arv [.ren [3, 4] [0]] ⟨x76, x77, x78, x79, x80, x81, false, rfl, h⟩
 rintro s ⟨x38, x39, x40, x41, x42, x43, x44, rfl, h⟩
 unfold F82_j0 at h
 refine sq <| VW.region <| nG K 2 (tn 2) ?_
 refine spC 111 h ?_ ?_<;>intro h
 ·refine nG K 2 (tn 2) <| VO.on (j := 1) (want := true) (d := 111) (b := true) rfl rfl rfl (by kernel_rfl) rfl ?_
  obtain⟨y45,hy,h⟩:=aS h
  refine clc false [.t Y50, .t Y50] [] (some 114) K (ok43 N _ _ hy) <| nN K (tn 2) ?_
  cases h; exact VW.ret (rt [])
 refine nN K (tn 5) ?_
 cases h; exact VW.ret (rt [])
def F81 (N : Nat) (a0 : Z50) : Option (Bool) :=
  andO (F82 N a0) fun y1 => some (!y1)
theorem ok81 N a0 {r} (h : F81 N a0 = some r) : Con prog 81 [.agg (lv Y50 a0)] [.lf (.v .bool r)] := by
 refine ctr [.lf (.v .bool)] K func81 rfl fun w0 E0 ht => ?_
 unfold F81 at h
 show VW _ _ _ _ _ (retQ _ _ _ _) _
 refine nR K (tn 2) <| sq <| VW.region <| nG K 1 (tn 1) ?_
 obtain⟨y1,hy,h⟩:=aS h
 refine clc false [.t Y50] [] (some 4) K (ok82 N _ hy) <| nN K (tn 2) ?_
 cases h; exact VW.ret (rt [])
def F135_j0 (N : Nat) (x6 : Bool) : Option (Int) :=
  cond x6 (some (1 : Int)) (some (-1 : Int))
def F135_j1 (N : Nat) (a0 : Int) (x5 : Bool) : Option (Int) :=
  cond x5 (some (2 : Int)) (cond (a0 == (1 : Int)) (F135_j0 N (a0 == (1 : Int))) (cond (a0 == (2 : Int)) (F135_j0 N (a0 == (2 : Int))) (cond (a0 == (5 : Int)) (F135_j0 N (a0 == (5 : Int))) (cond (a0 == (6 : Int)) (F135_j0 N (a0 == (6 : Int))) (F135_j0 N (a0 == (7 : Int)))))))
def F135 (N : Nat) (a0 : Int) : Option (Int) :=
  cond (a0 == (0 : Int)) (some (0 : Int)) (cond (a0 == (3 : Int)) (F135_j1 N a0 (a0 == (3 : Int))) (F135_j1 N a0 (a0 == (4 : Int))))
theorem ok135 N a0 {r} (h : F135 N a0 = some r) : Con prog 135 [I a0] [.lf (.v (.int .i64) r)] := by
 refine ctr [.lf (.v (.int .i64))] K func135 rfl fun w0 E0 ht => ?_
 unfold F135 at h
 show VW _ _ _ _ _ (retQ _ _ _ _) _
 refine nR K (tn 1) <| sq <| nR K (tn 1) <| VW.block <| nR K (tn 2) ?_
 refine cnd h ?_ ?_<;>intro h
 ·refine nR K (tn 1) ?_
  cases h; exact VW.ret (rt [])
 refine VW.join (fun s => ∃ x5, s = ⟨[(3, I a0), (6, B x5)], []⟩ ∧ F135_j1 N a0 x5 = some r) ?_ ?_
 ·refine nR K (tn 2) ?_
  refine cnd h ?_ ?_<;>intro h
  ·refine VW.skip ?_
   exact arv [.ren [3, 6] []] ⟨(a0 == (3 : Int)), rfl, h⟩
  refine nE K (tn 2) ?_
  exact arv [.ren [3, 6] []] ⟨(a0 == (4 : Int)), rfl, h⟩
 rintro s ⟨x5, rfl, h⟩
 unfold F135_j1 at h
 refine cnd h ?_ ?_<;>intro h
 ·refine nR K (tn 1) ?_
  cases h; exact VW.ret (rt [])
 refine VW.join (fun s => ∃ x6, s = ⟨[(9, B x6)], []⟩ ∧ F135_j0 N x6 = some r) ?_ ?_
 ·refine nR K (tn 2) ?_
  refine cnd h ?_ ?_<;>intro h
  ·refine VW.skip ?_
   exact arv [.ren [9] []] ⟨(a0 == (1 : Int)), rfl, h⟩
  refine nR K (tn 2) ?_
  refine cnd h ?_ ?_<;>intro h
  ·refine VW.skip ?_
   exact arv [.ren [9] []] ⟨(a0 == (2 : Int)), rfl, h⟩
  refine nR K (tn 2) ?_
  refine cnd h ?_ ?_<;>intro h
  ·refine VW.skip ?_
   exact arv [.ren [9] []] ⟨(a0 == (5 : Int)), rfl, h⟩
  refine nR K (tn 2) ?_
  refine cnd h ?_ ?_<;>intro h
  ·refine VW.skip ?_
   exact arv [.ren [9] []] ⟨(a0 == (6 : Int)), rfl, h⟩
  refine nE K (tn 2) ?_
  exact arv [.ren [9] []] ⟨(a0 == (7 : Int)), rfl, h⟩
 rintro s ⟨x6, rfl, h⟩
 unfold F135_j0 at h
 refine cnd h ?_ ?_<;>intro h
 ·refine nR K (tn 1) ?_
  cases h; exact VW.ret (rt [])
 refine VW.skip <| nR K (tn 1) ?_
 cases h; exact VW.ret (rt [])
def F83_j0 (N : Nat) (x13 : Int) : Option (Int) :=
  some x13
def F83_l0_b (N : Nat) (a0 : (List Z50)) (a2 : Int) (self : (List Z50) → Int → Int → Option (Int)) (y16 : Int) (nx24 : Int → Int → Option (Int)) (x20 : Int) (x21 : Int) : Option (Int) :=
  cond (decide (x21 < y16)) (andO (self a0 x20 (IntKind.i64.wrap (a2 + (1 : Int)))) fun y26 => cond (decide (y26 < (0 : Int))) (some (-1 : Int)) (nx24 y26 (IntKind.i64.wrap (x21 + (1 : Int))))) (F83_j0 N x20)
def F83_l0 (N : Nat) (a0 : (List Z50)) (a2 : Int) (self : (List Z50) → Int → Int → Option (Int)) (y16 : Int) := loopF (F83_l0_b N a0 a2 self y16) (fun _ _ => none)
theorem F83_l0_s N a0 a2 (self : (List Z50) → Int → Int → Option (Int)) y16 {k} (hk : 0 < k) x20 x21 : F83_l0 N a0 a2 self y16 k x20 x21 = F83_l0_b N a0 a2 self y16 (F83_l0 N a0 a2 self y16 (k - 1)) x20 x21 := by cases k;cases hk;rfl
def F83_b (N : Nat) (self : (List Z50) → Int → Int → Option (Int)) (a0 : (List Z50)) (a1 : Int) (a2 : Int) : Option (Int) :=
  cond (decide (a1 ≥ (a0.length : Int))) (some (-1 : Int)) (cond (decide (a2 > (10 : Int))) (some (-1 : Int)) (gd (InR a1 a0.length) (andO (F135 N ((a0.getD a1.toNat (Ty.dflt Y50)).1)) fun y16 => F83_l0 N a0 a2 self y16 N (IntKind.i64.wrap (a1 + (1 : Int))) (0 : Int))))
theorem ok83_b (N : Nat) (self : (List Z50) → Int → Int → Option (Int)) (ih : ∀ (a0 : (List Z50)) (a1 : Int) (a2 : Int) (r : Int), self a0 a1 a2 = some r → Con prog 83 [Vv (.sl Y50) a0, I a1, I a2] [.lf (.v (.int .i64) r)]) (a0 : (List Z50)) (a1 : Int) (a2 : Int) {r : Int} (h : F83_b N self a0 a1 a2 = some r) : Con prog 83 [Vv (.sl Y50) a0, I a1, I a2] [.lf (.v (.int .i64) r)] := by
 refine ctr [.lf (.v (.int .i64))] K func83 rfl fun w0 E0 ht => ?_
 unfold F83_b at h
 show VW _ _ _ _ _ (retQ _ _ _ _) _
 refine nR K (tn 1) <| sq <| sq <| VW.region <| nG K 5 (tn 5) ?_
 refine spC 12 h ?_ ?_<;>intro h
 ·refine nN K (tn 3) ?_
  refine VW.cond (b := true) (by kernel_rfl) (fun _ => ?_) (fun h' => nomatch h')
  refine nR K (tn 1) ?_
  cases h; exact VW.ret (rt [])
 refine nN K (tn 3) ?_
 refine cnd h ?_ ?_<;>intro h
 ·refine nR K (tn 1) ?_
  cases h; exact VW.ret (rt [])
 refine VW.skip <| nR K (tn 3) ?_
 refine VW.join (fun s => ∃ x13, s = ⟨[(7, I x13)], []⟩ ∧ F83_j0 N x13 = some r) ?_ ?_
 ·refine sq <| VW.region ?_
  obtain⟨g15,h⟩:=gS h
  refine nG K 5 (pu 2 (an g15 (tn 2))) ?_
  obtain⟨y16,hy,h⟩:=aS h
  refine clc false [.t (.int .i64)] [] (some 23) K (ok135 N _ hy) <| nN K (tn 1) <| VW.block <| lop (fun k s => ∃ x20 x21, s = ⟨[(0, Vv (.sl Y50) a0), (2, I a2), (7, I x20), (23, I y16), (24, I x21)], []⟩ ∧ F83_l0 N a0 a2 self y16 k x20 x21 = some r) N [.ren [0, 2, 7, 23, 24] []] ⟨(wr (a1 + (1 : Int))), (0 : Int), rfl, h⟩ ?_
  rintro k24 s ⟨x20, x21, rfl, h⟩
  cases k24 with
  | zero => cases show none = some r from h
  | succ k24 =>
   replace h : F83_l0_b N a0 a2 self y16 (F83_l0 N a0 a2 self y16 k24) x20 x21 = some r := h
   unfold F83_l0_b at h
   refine nR K (tn 1) <| sq ?_
   refine cnd h ?_ ?_<;>intro h
   ·refine VW.skip <| sq <| VW.block <| sq <| VW.region <| nG K 4 (tn 4) ?_
    obtain⟨y26,hy,h⟩:=aS h
    refine clc false [.t (.sl Y50), .t (.int .i64), .t (.int .i64)] [] (some 30) K (ih _ _ _ _ hy) <| nN K (tn 1) <| nR K (tn 2) ?_
    refine cnd h ?_ ?_<;>intro h
    ·refine nR K (tn 1) ?_
     cases h; exact VW.ret (rt [])
    refine VW.skip <| nE K (tn 2) ?_
    exact aro [.ren [0, 2, 7, 23, 24] []] ⟨y26, (wr (x21 + (1 : Int))), rfl, h⟩
   refine VW.exit ?_
   exact arv [.ren [7] []] ⟨x20, rfl, h⟩
 rintro s ⟨x13, rfl, h⟩
 unfold F83_j0 at h
 refine nR K (tn 2) ?_
 cases h; exact VW.ret (rt [])
def F83_r (N : Nat) := loopF (F83_b N) (fun _ _ _ => none)
theorem F83_s N {k} (hk : 0 < k) a0 a1 a2 : F83_r N k a0 a1 a2 = F83_b N (F83_r N (k - 1)) a0 a1 a2 := by cases k;cases hk;rfl
def F83 (N : Nat) : (List Z50) → Int → Int → Option (Int) := F83_r N N
theorem ok83_k (N : Nat) : ∀ (k : Nat) (a0 : (List Z50)) (a1 : Int) (a2 : Int) (r : Int), loopF (F83_b N) (fun _ _ _ => none) k a0 a1 a2 = some r → Con prog 83 [Vv (.sl Y50) a0, I a1, I a2] [.lf (.v (.int .i64) r)]
 | 0, a0, a1, a2, r, h => nomatch (show (none : Option (Int)) = some r from h)
 | k + 1, a0, a1, a2, r, h => ok83_b N _ (ok83_k N k) a0 a1 a2 h
theorem ok83 N a0 a1 a2 {r} (h : F83 N a0 a1 a2 = some r) : Con prog 83 [Vv (.sl Y50) a0, I a1, I a2] [.lf (.v (.int .i64) r)] := ok83_k N N a0 a1 a2 r h
def F44 (N : Nat) (a0 : (List Z50)) : Option (Bool) :=
  andO (F80 N (a0.length : Int) (1 : Int) (40 : Int)) fun y3 => cond (!y3) (some false) (andO (F48 N a0 (fun z0 => F81 N z0)) fun y4 => cond y4 (some false) (andO (F83 N a0 (0 : Int) (1 : Int)) fun y5 => some (y5 == (a0.length : Int))))
theorem ok44 N a0 {r} (h : F44 N a0 = some r) : Con prog 44 [Vv (.sl Y50) a0] [.lf (.v .bool r)] := by
 refine ctr [.lf (.v .bool)] K func44 rfl fun w0 E0 ht => ?_
 unfold F44 at h
 show VW _ _ _ _ _ (retQ _ _ _ _) _
 refine nR K (tn 1) <| sq <| sq <| VW.region <| nG K 2 (tn 2) ?_
 obtain⟨y3,hy,h⟩:=aS h
 refine clc false [.t (.int .i64), .t (.int .i64), .t (.int .i64)] [] (some 5) K (ok80 N _ _ _ hy) <| nG K 2 (tn 2) ?_
 refine spC 7 h ?_ ?_<;>intro h
 ·refine nN K (tn 3) ?_
  refine VW.cond (b := true) (by kernel_rfl) (fun _ => ?_) (fun h' => nomatch h')
  refine nR K (tn 1) ?_
  cases h; exact VW.ret (rt [])
 refine nG K 1 (tn 1) <| VO.on (j := 4) (want := false) (d := 7) (b := false) rfl rfl rfl (by kernel_rfl) rfl ?_
 obtain⟨y4,hy,h⟩:=aS h
 refine clc false [.t (.sl Y50), .clo []] [] (some 9) K (ok48 N _ 81  (fun z0 => F81 N z0 ) (fun z0 _ hz => ok81 N z0 hz) hy) <| nN K (tn 1) ?_
 refine cnd h ?_ ?_<;>intro h
 ·refine nR K (tn 1) ?_
  cases h; exact VW.ret (rt [])
 refine VW.skip <| sq <| VW.region <| nG K 1 (tn 1) ?_
 obtain⟨y5,hy,h⟩:=aS h
 refine clc false [.t (.sl Y50), .t (.int .i64), .t (.int .i64)] [] (some 12) K (ok83 N _ _ _ hy) <| nN K (tn 4) ?_
 cases h; exact VW.ret (rt [])
def F84 (N : Nat) (a0 : Z50) : Option (Bool) :=
  some a0.2.2.2.2.2.1
theorem ok84 N a0 {r} (h : F84 N a0 = some r) : Con prog 84 [.agg (lv Y50 a0)] [.lf (.v .bool r)] := by
 refine ctr [.lf (.v .bool)] K func84 rfl fun w0 E0 ht => ?_
 unfold F84 at h
 show VW _ _ _ _ _ (retQ _ _ _ _) _
 refine nR K (tn 2) <| nR K (tn 3) ?_
 cases h; exact VW.ret (rt [])
def F45 (N : Nat) (a0 : (List Z50)) : Option (Bool) :=
  andO (F48 N a0 (fun z0 => F84 N z0)) fun y1 => some y1
theorem ok45 N a0 {r} (h : F45 N a0 = some r) : Con prog 45 [Vv (.sl Y50) a0] [.lf (.v .bool r)] := by
 refine ctr [.lf (.v .bool)] K func45 rfl fun w0 E0 ht => ?_
 unfold F45 at h
 show VW _ _ _ _ _ (retQ _ _ _ _) _
 refine nR K (tn 1) <| sq <| VW.region <| nG K 1 (tn 1) ?_
 obtain⟨y1,hy,h⟩:=aS h
 refine clc false [.t (.sl Y50), .clo []] [] (some 4) K (ok48 N _ 84  (fun z0 => F84 N z0 ) (fun z0 _ hz => ok84 N z0 hz) hy) <| nN K (tn 1) ?_
 cases h; exact VW.ret (rt [])
def F11 (N : Nat) (a0 : (List Z50)) : Option (Bool) :=
  andO (F44 N a0) fun y1 => cond y1 (andO (F45 N a0) fun y2 => some (!y2)) (some false)
theorem ok11 N a0 {r} (h : F11 N a0 = some r) : Con prog 11 [Vv (.sl Y50) a0] [.lf (.v .bool r)] := by
 refine ctr [.lf (.v .bool)] K func11 rfl fun w0 E0 ht => ?_
 unfold F11 at h
 show VW _ _ _ _ _ (retQ _ _ _ _) _
 refine nR K (tn 1) <| sq <| VW.region <| nG K 1 (tn 1) ?_
 obtain⟨y1,hy,h⟩:=aS h
 refine clc false [.t (.sl Y50)] [] (some 4) K (ok44 N _ hy) <| nG K 1 (tn 1) ?_
 refine spC 5 h ?_ ?_<;>intro h
 ·refine nG K 1 (tn 1) <| VO.on (j := 2) (want := true) (d := 5) (b := true) rfl rfl rfl (by kernel_rfl) rfl ?_
  obtain⟨y2,hy,h⟩:=aS h
  refine clc false [.t (.sl Y50)] [] (some 7) K (ok45 N _ hy) <| nN K (tn 3) ?_
  cases h; exact VW.ret (rt [])
 refine nN K (tn 5) ?_
 cases h; exact VW.ret (rt [])
def F79 (N : Nat) (a0 : (List Int)) : Option ((List Int)) :=
  gd (a0.length ≤ lim (.int .i64)) (some a0)
theorem ok79 N a0 {r} (h : F79 N a0 = some r) : Con prog 79 [Vv (.sl (.int .i64)) a0] [.lf (.own (.int .i64) r .dp)] := by
 refine ctr [.lf (.own (.int .i64) .dp)] K func79 rfl fun w0 E0 ht => ?_
 unfold F79 at h
 show VW _ _ _ _ _ (retQ _ _ _ _) _
 refine nR K (tn 1) <| sq <| sq <| VW.region <| nG K 1 (tn 1) ?_
 refine VO.isNil (d := 4) (e := (.int .i64)) (xs := a0) K rfl rfl rfl rfl (by kernel_rfl) (by kernel_rfl) (fun hx => ?_) ?_
 ·replace h : some ([]) = some r := by
   subst hx; first | exact h | exact (gd_some h).2
  refine nN K (tn 0) ?_
  refine VW.cond (b := true) (by kernel_rfl) (fun _ => ?_) (fun h' => nomatch h')
  refine nR K (tn 1) ?_
  cases h; exact VW.ret (rt [none])
 refine nN K (tn 0) ?_
 refine VW.cond (b := false) (by kernel_rfl) (fun h' => nomatch h') (fun _ => ?_)
 refine VW.skip ?_
 obtain⟨g1,h⟩:=gS h
 refine nR K (pu 2 (an g1 (tn 1))) ?_
 cases h; exact VW.ret (rt [some 0])
def F40_j0 (N : Nat) (x24 : (List Z50)) : Option ((List Z50)) :=
  some x24
def F40_l0_b (N : Nat) (a0 : (List Z50)) (nx42 : (List Z50) → Int → Int → Option ((List Z50))) (x33 : (List Z50)) (x34 : Int) (x35 : Int) : Option ((List Z50)) :=
  cond (decide (x35 < x34)) (gd (InR x35 a0.length) (andO (F79 N ((a0.getD x35.toNat (Ty.dflt Y50)).2.2.2.2.2.2)) fun y47 => gd (x33.length + ([((a0.getD x35.toNat (Ty.dflt Y50)).1, ((a0.getD x35.toNat (Ty.dflt Y50)).2.1, ((a0.getD x35.toNat (Ty.dflt Y50)).2.2.1, ((a0.getD x35.toNat (Ty.dflt Y50)).2.2.2.1, ((a0.getD x35.toNat (Ty.dflt Y50)).2.2.2.2.1, ((a0.getD x35.toNat (Ty.dflt Y50)).2.2.2.2.2.1, y47))))))]).length ≤ lim Y50) (nx42 (x33 ++ ([((a0.getD x35.toNat (Ty.dflt Y50)).1, ((a0.getD x35.toNat (Ty.dflt Y50)).2.1, ((a0.getD x35.toNat (Ty.dflt Y50)).2.2.1, ((a0.getD x35.toNat (Ty.dflt Y50)).2.2.2.1, ((a0.getD x35.toNat (Ty.dflt Y50)).2.2.2.2.1, ((a0.getD x35.toNat (Ty.dflt Y50)).2.2.2.2.2.1, y47))))))])) x34 (IntKind.i64.wrap (x35 + (1 : Int)))))) (F40_j0 N x33)
def F40_l0 (N : Nat) (a0 : (List Z50)) := loopF (F40_l0_b N a0) (fun _ _ _ => none)
theorem F40_l0_s N a0 {k} (hk : 0 < k) x33 x34 x35 : F40_l0 N a0 k x33 x34 x35 = F40_l0_b N a0 (F40_l0 N a0 (k - 1)) x33 x34 x35 := by cases k;cases hk;rfl
def F40 (N : Nat) (a0 : (List Z50)) : Option ((List Z50)) :=
  F40_l0 N a0 N ([]) (a0.length : Int) (0 : Int)
theorem ok40 N a0 {r} (h : F40 N a0 = some r) : Con prog 40 [Vv (.sl Y50) a0] [.lf (.own Y50 r .dp)] := by
 refine ctr [.lf (.own Y50 .dp)] K func40 rfl fun w0 E0 ht => ?_
 unfold F40 at h
 show VW _ _ _ _ _ (retQ _ _ _ _) _
 refine nR K (tn 1) <| nR K (tn 1) ?_
 refine VW.join (fun s => ∃ x24, s = ⟨[(3, hh 0)], [ar 0 Y50 x24 .dp]⟩ ∧ F40_j0 N x24 = some r) ?_ ?_
 ·refine nR K (tn 3) <| VW.block <| lop (fun k s => ∃ x33 x34 x35, s = ⟨[(3, hh 0), (6, Vv (.sl Y50) a0), (7, I x34), (8, I x35)], [ar 0 Y50 x33 .dp]⟩ ∧ F40_l0 N a0 k x33 x34 x35 = some r) N [.nilS 3 Y50 .dp, .ren [3, 6, 7, 8] [0]] ⟨[], (a0.length : Int), (0 : Int), rfl, h⟩ ?_
  rintro k42 s ⟨x33, x34, x35, rfl, h⟩
  cases k42 with
  | zero => cases show none = some r from h
  | succ k42 =>
   replace h : F40_l0_b N a0 (F40_l0 N a0 k42) x33 x34 x35 = some r := h
   unfold F40_l0_b at h
   refine nR K (tn 1) <| sq ?_
   refine cnd h ?_ ?_<;>intro h
   ·refine VW.skip <| sq <| VW.block ?_
    obtain⟨g46,h⟩:=gS h
    refine nR K (an g46 (tn 3)) <| sq <| VW.region <| nG K 2 (tn 2) ?_
    obtain⟨y47,hy,h⟩:=aS h
    refine clc false [.t (.sl (.int .i64))] [] (some 14) K (ok79 N _ hy) <| nN K (tn 2) <| VW.region <| nG K 2 (tn 2) <| VO.litA (d := 18) (v := hh 3) (H' := [ar 0 Y50 x33 .dp, bx [zi ((a0.getD x35.toNat D50).1), zs ((a0.getD x35.toNat D50).2.1), zi ((a0.getD x35.toNat D50).2.2.1), zi ((a0.getD x35.toNat D50).2.2.2.1), zi ((a0.getD x35.toNat D50).2.2.2.2.1), zb ((a0.getD x35.toNat D50).2.2.2.2.2.1), .hd 2 0 none] 51, none, ar 0 Y50 ([((a0.getD x35.toNat D50).1, ((a0.getD x35.toNat D50).2.1, ((a0.getD x35.toNat D50).2.2.1, ((a0.getD x35.toNat D50).2.2.2.1, ((a0.getD x35.toNat D50).2.2.2.2.1, ((a0.getD x35.toNat D50).2.2.2.2.2.1, y47))))))]) .dp]) K (by kernel_rfl) ?_
    obtain⟨g48,h⟩:=gS h
    refine VO.appM (d := 19) (φ := x33.length + ([((a0.getD x35.toNat D50).1, ((a0.getD x35.toNat D50).2.1, ((a0.getD x35.toNat D50).2.2.1, ((a0.getD x35.toNat D50).2.2.2.1, ((a0.getD x35.toNat D50).2.2.2.2.1, ((a0.getD x35.toNat D50).2.2.2.2.2.1, y47))))))]).length ≤ lim Y50) (v := .lf (.hd 0 1 none)) (H' := [ar 1 Y50 (x33 ++ ([((a0.getD x35.toNat D50).1, ((a0.getD x35.toNat D50).2.1, ((a0.getD x35.toNat D50).2.2.1, ((a0.getD x35.toNat D50).2.2.2.1, ((a0.getD x35.toNat D50).2.2.2.2.1, ((a0.getD x35.toNat D50).2.2.2.2.2.1, y47))))))])) .dp, bx [zi ((a0.getD x35.toNat D50).1), zs ((a0.getD x35.toNat D50).2.1), zi ((a0.getD x35.toNat D50).2.2.1), zi ((a0.getD x35.toNat D50).2.2.2.1), zi ((a0.getD x35.toNat D50).2.2.2.2.1), zb ((a0.getD x35.toNat D50).2.2.2.2.2.1), .hd 2 0 none] 51, none, none]) K (by kernel_rfl) g48 ?_
    refine nN K (tn 1) <| nE K (tn 2) ?_
    exact aro [.ren [3, 6, 7, 8] [0]] ⟨(x33 ++ ([((a0.getD x35.toNat D50).1, ((a0.getD x35.toNat D50).2.1, ((a0.getD x35.toNat D50).2.2.1, ((a0.getD x35.toNat D50).2.2.2.1, ((a0.getD x35.toNat D50).2.2.2.2.1, ((a0.getD x35.toNat D50).2.2.2.2.2.1, y47))))))])), x34, (wr (x35 + (1 : Int))), rfl, h⟩
   refine VW.exit ?_
   exact arv [.ren [3] [0]] ⟨x33, rfl, h⟩
 rintro s ⟨x24, rfl, h⟩
 unfold F40_j0 at h
 refine nR K (tn 2) ?_
 cases h; exact VW.ret (rt [some 0])
def F41 (N : Nat) (a0 : Z50) : Option (Bool) :=
  cond (a0.1 == (1 : Int)) (cond (a0.2.2.2.1 != (3 : Int)) (some true) (some (a0.1 == (6 : Int)))) (some (a0.1 == (6 : Int)))
theorem ok41 N a0 {r} (h : F41 N a0 = some r) : Con prog 41 [.agg (lv Y50 a0)] [.lf (.v .bool r)] := by
 refine ctr [.lf (.v .bool)] K func41 rfl fun w0 E0 ht => ?_
 unfold F41 at h
 show VW _ _ _ _ _ (retQ _ _ _ _) _
 refine nR K (tn 2) <| sq <| VW.region <| nG K 4 (tn 4) ?_
 refine spC 6 h ?_ ?_<;>intro h
 ·refine nG K 5 (tn 5) ?_
  refine spC 11 h ?_ ?_<;>intro h
  ·refine nN K (tn 5) ?_
   cases h; exact VW.ret (rt [])
  refine nN K (tn 5) ?_
  cases h; exact VW.ret (rt [])
 refine nN K (tn 10) ?_
 cases h; exact VW.ret (rt [])
def F8_j0 (N : Nat) (x61 : (List Z50)) (x62 : (List Int)) : Option ((List Z50) × (List Int) × Bool) :=
  some (x61, x62, true)
def F8_j1 (N : Nat) (nx103 : (List Z50) → (List Int) → Int → Int → Option ((List Z50) × (List Int) × Bool)) (x84 : Int) (x85 : Int) (x111 : (List Z50)) (x112 : (List Int)) : Option ((List Z50) × (List Int) × Bool) :=
  nx103 x111 x112 x84 (IntKind.i64.wrap (x85 + (1 : Int)))
def F8_l0_b (N : Nat) (nx103 : (List Z50) → (List Int) → Int → Int → Option ((List Z50) × (List Int) × Bool)) (x82 : (List Z50)) (x83 : (List Int)) (x84 : Int) (x85 : Int) : Option ((List Z50) × (List Int) × Bool) :=
  cond (decide (x85 < x84)) (gd (InR x85 x82.length) (gd (x85.toNat < x82.length) (andO (F41 N (x82.getD x85.toNat (Ty.dflt Y50))) fun y115 => cond y115 (gd (x85.toNat < x82.length) (gd (x83.length + ([(x82.getD x85.toNat (Ty.dflt Y50)).2.2.2.2.1]).length ≤ lim (.int .i64)) (gd (x85.toNat < x82.length) (gd (x85.toNat < (x82.set x85.toNat ((x82.getD x85.toNat (Ty.dflt Y50)).1, ((x82.getD x85.toNat (Ty.dflt Y50)).2.1, ((x82.getD x85.toNat (Ty.dflt Y50)).2.2.1, ((x82.getD x85.toNat (Ty.dflt Y50)).2.2.2.1, ((IntKind.i64.wrap (((x83 ++ ([(x82.getD x85.toNat (Ty.dflt Y50)).2.2.2.2.1])).length : Int) - (1 : Int))), ((x82.getD x85.toNat (Ty.dflt Y50)).2.2.2.2.2.1, (x82.getD x85.toNat (Ty.dflt Y50)).2.2.2.2.2.2))))))).length) (F8_j1 N nx103 x84 x85 (x82.set x85.toNat ((x82.getD x85.toNat (Ty.dflt Y50)).1, ((x82.getD x85.toNat (Ty.dflt Y50)).2.1, ((x82.getD x85.toNat (Ty.dflt Y50)).2.2.1, ((x82.getD x85.toNat (Ty.dflt Y50)).2.2.2.1, ((IntKind.i64.wrap (((x83 ++ ([(x82.getD x85.toNat (Ty.dflt Y50)).2.2.2.2.1])).length : Int) - (1 : Int))), (true, (x82.getD x85.toNat (Ty.dflt Y50)).2.2.2.2.2.2))))))) (x83 ++ ([(x82.getD x85.toNat (Ty.dflt Y50)).2.2.2.2.1]))))))) (F8_j1 N nx103 x84 x85 x82 x83)))) (F8_j0 N x82 x83)
def F8_l0 (N : Nat) := loopF (F8_l0_b N) (fun _ _ _ _ => none)
theorem F8_l0_s N {k} (hk : 0 < k) x82 x83 x84 x85 : F8_l0 N k x82 x83 x84 x85 = F8_l0_b N (F8_l0 N (k - 1)) x82 x83 x84 x85 := by cases k;cases hk;rfl
def F8 (N : Nat) (a0 : (List Z50)) : Option ((List Z50) × (List Int) × Bool) :=
  andO (F11 N a0) fun y2 => cond (!y2) (some ([], [], false)) (andO (F40 N a0) fun y3 => F8_l0 N N y3 ([]) (y3.length : Int) (0 : Int))
theorem ok8 N a0 {r} (h : F8 N a0 = some r) : Con prog 8 [Vv (.sl Y50) a0] [.lf (.own Y50 r.1 .dp), .lf (.own (.int .i64) r.2.1 .dp), .lf (.v .bool r.2.2)] := by
 refine ctr [.lf (.own Y50 .dp), .lf (.own (.int .i64) .dp), .lf (.v .bool)] K func8 rfl fun w0 E0 ht => ?_
 unfold F8 at h
 show VW _ _ _ _ _ (retQ _ _ _ _) _
 refine nR K (tn 3) <| sq <| sq <| VW.region <| nG K 1 (tn 1) ?_
 obtain⟨y2,hy,h⟩:=aS h
 refine clc false [.t (.sl Y50)] [] (some 10) K (ok11 N _ hy) <| nN K (tn 1) ?_
 refine cnd h ?_ ?_<;>intro h
 ·refine nR K (tn 3) ?_
  cases h; exact VW.ret (rt [none, none])
 refine VW.skip <| sq <| VW.region <| nG K 1 (tn 1) ?_
 obtain⟨y3,hy,h⟩:=aS h
 refine clc false [.t (.sl Y50)] [] (some 13) K (ok40 N _ hy) <| nN K (tn 1) <| nR K (tn 1) ?_
 refine VW.join (fun s => ∃ x61 x62, s = ⟨[(5, hh 0), (6, hh 1)], [ar 0 Y50 x61 .dp, ar 0 (.int .i64) x62 .dp]⟩ ∧ F8_j0 N x61 x62 = some r) ?_ ?_
 ·refine nR K (tn 3) <| VW.block <| lop (fun k s => ∃ x82 x83 x84 x85, s = ⟨[(5, hh 0), (6, hh 1), (15, I x84), (16, I x85)], [ar 0 Y50 x82 .dp, ar 0 (.int .i64) x83 .dp]⟩ ∧ F8_l0 N k x82 x83 x84 x85 = some r) N [.nilS 6 (.int .i64) .dp, .ren [5, 6, 15, 16] [0, 1]] ⟨y3, [], (y3.length : Int), (0 : Int), rfl, h⟩ ?_
  rintro k103 s ⟨x82, x83, x84, x85, rfl, h⟩
  cases k103 with
  | zero => cases show none = some r from h
  | succ k103 =>
   replace h : F8_l0_b N (F8_l0 N k103) x82 x83 x84 x85 = some r := h
   unfold F8_l0_b at h
   refine nR K (tn 1) <| sq ?_
   refine cnd h ?_ ?_<;>intro h
   ·refine VW.skip ?_
    refine VW.join (fun s => ∃ x111 x112, s = ⟨[(5, hh 0), (6, hh 1), (15, I x84), (16, I x85)], [ar 0 Y50 x111 .dp, ar 0 (.int .i64) x112 .dp]⟩ ∧ F8_j1 N (F8_l0 N k103) x84 x85 x111 x112 = some r) ?_ ?_
    ·refine VW.block <| nR K (tn 2) ?_
     obtain⟨g114,h⟩:=gS h
     refine nR K (pu 2 (an g114 (tn 1))) <| sq <| VW.region <| nG K 2 (tn 2) ?_
     obtain⟨g116,h⟩:=gS h
     obtain⟨y115,hy,h⟩:=aS h
     refine VO.peek (t := 51) (d1 := 24) (d2 := 25) (id := 0) (cur := 0) (i := x85.toNat) (f := 41) (l := []) (e := Y50) (xs := x82) K (by kernel_rfl) (by kernel_rfl) (by kernel_rfl) (by kernel_rfl) g116 (by kernel_rfl) (ok41 N _ hy) rfl <| sN K [5, 6, 8, 15, 16, 25] [0, 1] ⟨[(5, hh 0), (6, hh 1), (8, .lf (.ptr 0 0 x85.toNat 0)), (15, I x84), (16, I x85), (25, B y115)], [ar 0 Y50 x82 .dp, ar 0 (.int .i64) x83 .dp]⟩ (tn 0) ?_
     refine cnd h ?_ ?_<;>intro h
     ·obtain⟨g117,h⟩:=gS h
      obtain⟨g118,h⟩:=gS h
      refine nR K (pu 4 (an g117 (pu 1 (an g118 (tn 1))))) ?_
      obtain⟨g119,h⟩:=gS h
      refine nR K (pu 6 (an g119 (tn 0))) <| VW.region ?_
      obtain⟨g120,h⟩:=gS h
      refine sG K 4 [5, 6, 15, 16] [0, 1] ⟨[(5, hh 0), (6, hh 1), (15, I x84), (16, I x85)], [ar 0 Y50 ((x82.set x85.toNat ((x82.getD x85.toNat D50).1, ((x82.getD x85.toNat D50).2.1, ((x82.getD x85.toNat D50).2.2.1, ((x82.getD x85.toNat D50).2.2.2.1, ((wr (((x83 ++ ([(x82.getD x85.toNat D50).2.2.2.2.1])).length : Int) - (1 : Int))), ((x82.getD x85.toNat D50).2.2.2.2.2.1, (x82.getD x85.toNat D50).2.2.2.2.2.2))))))).set x85.toNat (((x82.set x85.toNat ((x82.getD x85.toNat D50).1, ((x82.getD x85.toNat D50).2.1, ((x82.getD x85.toNat D50).2.2.1, ((x82.getD x85.toNat D50).2.2.2.1, ((wr (((x83 ++ ([(x82.getD x85.toNat D50).2.2.2.2.1])).length : Int) - (1 : Int))), ((x82.getD x85.toNat D50).2.2.2.2.2.1, (x82.getD x85.toNat D50).2.2.2.2.2.2))))))).getD x85.toNat D50).1, (((x82.set x85.toNat ((x82.getD x85.toNat D50).1, ((x82.getD x85.toNat D50).2.1, ((x82.getD x85.toNat D50).2.2.1, ((x82.getD x85.toNat D50).2.2.2.1, ((wr (((x83 ++ ([(x82.getD x85.toNat D50).2.2.2.2.1])).length : Int) - (1 : Int))), ((x82.getD x85.toNat D50).2.2.2.2.2.1, (x82.getD x85.toNat D50).2.2.2.2.2.2))))))).getD x85.toNat D50).2.1, (((x82.set x85.toNat ((x82.getD x85.toNat D50).1, ((x82.getD x85.toNat D50).2.1, ((x82.getD x85.toNat D50).2.2.1, ((x82.getD x85.toNat D50).2.2.2.1, ((wr (((x83 ++ ([(x82.getD x85.toNat D50).2.2.2.2.1])).length : Int) - (1 : Int))), ((x82.getD x85.toNat D50).2.2.2.2.2.1, (x82.getD x85.toNat D50).2.2.2.2.2.2))))))).getD x85.toNat D50).2.2.1, (((x82.set x85.toNat ((x82.getD x85.toNat D50).1, ((x82.getD x85.toNat D50).2.1, ((x82.getD x85.toNat D50).2.2.1, ((x82.getD x85.toNat D50).2.2.2.1, ((wr (((x83 ++ ([(x82.getD x85.toNat D50).2.2.2.2.1])).length : Int) - (1 : Int))), ((x82.getD x85.toNat D50).2.2.2.2.2.1, (x82.getD x85.toNat D50).2.2.2.2.2.2))))))).getD x85.toNat D50).2.2.2.1, (((x82.set x85.toNat ((x82.getD x85.toNat D50).1, ((x82.getD x85.toNat D50).2.1, ((x82.getD x85.toNat D50).2.2.1, ((x82.getD x85.toNat D50).2.2.2.1, ((wr (((x83 ++ ([(x82.getD x85.toNat D50).2.2.2.2.1])).length : Int) - (1 : Int))), ((x82.getD x85.toNat D50).2.2.2.2.2.1, (x82.getD x85.toNat D50).2.2.2.2.2.2))))))).getD x85.toNat D50).2.2.2.2.1, (true, ((x82.set x85.toNat ((x82.getD x85.toNat D50).1, ((x82.getD x85.toNat D50).2.1, ((x82.getD x85.toNat D50).2.2.1, ((x82.getD x85.toNat D50).2.2.2.1, ((wr (((x83 ++ ([(x82.getD x85.toNat D50).2.2.2.2.1])).length : Int) - (1 : Int))), ((x82.getD x85.toNat D50).2.2.2.2.2.1, (x82.getD x85.toNat D50).2.2.2.2.2.2))))))).getD x85.toNat D50).2.2.2.2.2.2))))))) .dp, ar 0 (.int .i64) (x83 ++ ([(x82.getD x85.toNat D50).2.2.2.2.1])) .dp]⟩ (pu 3 (an g120 (tn 0))) ?_
      rw [show ((x82.set x85.toNat ((x82.getD x85.toNat D50).1, ((x82.getD x85.toNat D50).2.1, ((x82.getD x85.toNat D50).2.2.1, ((x82.getD x85.toNat D50).2.2.2.1, ((wr (((x83 ++ ([(x82.getD x85.toNat D50).2.2.2.2.1])).length : Int) - (1 : Int))), ((x82.getD x85.toNat D50).2.2.2.2.2.1, (x82.getD x85.toNat D50).2.2.2.2.2.2))))))).set x85.toNat (((x82.set x85.toNat ((x82.getD x85.toNat D50).1, ((x82.getD x85.toNat D50).2.1, ((x82.getD x85.toNat D50).2.2.1, ((x82.getD x85.toNat D50).2.2.2.1, ((wr (((x83 ++ ([(x82.getD x85.toNat D50).2.2.2.2.1])).length : Int) - (1 : Int))), ((x82.getD x85.toNat D50).2.2.2.2.2.1, (x82.getD x85.toNat D50).2.2.2.2.2.2))))))).getD x85.toNat D50).1, (((x82.set x85.toNat ((x82.getD x85.toNat D50).1, ((x82.getD x85.toNat D50).2.1, ((x82.getD x85.toNat D50).2.2.1, ((x82.getD x85.toNat D50).2.2.2.1, ((wr (((x83 ++ ([(x82.getD x85.toNat D50).2.2.2.2.1])).length : Int) - (1 : Int))), ((x82.getD x85.toNat D50).2.2.2.2.2.1, (x82.getD x85.toNat D50).2.2.2.2.2.2))))))).getD x85.toNat D50).2.1, (((x82.set x85.toNat ((x82.getD x85.toNat D50).1, ((x82.getD x85.toNat D50).2.1, ((x82.getD x85.toNat D50).2.2.1, ((x82.getD x85.toNat D50).2.2.2.1, ((wr (((x83 ++ ([(x82.getD x85.toNat D50).2.2.2.2.1])).length : Int) - (1 : Int))), ((x82.getD x85.toNat D50).2.2.2.2.2.1, (x82.getD x85.toNat D50).2.2.2.2.2.2))))))).getD x85.toNat D50).2.2.1, (((x82.set x85.toNat ((x82.getD x85.toNat D50).1, ((x82.getD x85.toNat D50).2.1, ((x82.getD x85.toNat D50).2.2.1, ((x82.getD x85.toNat D50).2.2.2.1, ((wr (((x83 ++ ([(x82.getD x85.toNat D50).2.2.2.2.1])).length : Int) - (1 : Int))), ((x82.getD x85.toNat D50).2.2.2.2.2.1, (x82.getD x85.toNat D50).2.2.2.2.2.2))))))).getD x85.toNat D50).2.2.2.1, (((x82.set x85.toNat ((x82.getD x85.toNat D50).1, ((x82.getD x85.toNat D50).2.1, ((x82.getD x85.toNat D50).2.2.1, ((x82.getD x85.toNat D50).2.2.2.1, ((wr (((x83 ++ ([(x82.getD x85.toNat D50).2.2.2.2.1])).length : Int) - (1 : Int))), ((x82.getD x85.toNat D50).2.2.2.2.2.1, (x82.getD x85.toNat D50).2.2.2.2.2.2))))))).getD x85.toNat D50).2.2.2.2.1, (true, ((x82.set x85.toNat ((x82.getD x85.toNat D50).1, ((x82.getD x85.toNat D50).2.1, ((x82.getD x85.toNat D50).2.2.1, ((x82.getD x85.toNat D50).2.2.2.1, ((wr (((x83 ++ ([(x82.getD x85.toNat D50).2.2.2.2.1])).length : Int) - (1 : Int))), ((x82.getD x85.toNat D50).2.2.2.2.2.1, (x82.getD x85.toNat D50).2.2.2.2.2.2))))))).getD x85.toNat D50).2.2.2.2.2.2))))))) = (x82.set x85.toNat ((x82.getD x85.toNat D50).1, ((x82.getD x85.toNat D50).2.1, ((x82.getD x85.toNat D50).2.2.1, ((x82.getD x85.toNat D50).2.2.2.1, ((wr (((x83 ++ ([(x82.getD x85.toNat D50).2.2.2.2.1])).length : Int) - (1 : Int))), (true, (x82.getD x85.toNat D50).2.2.2.2.2.2))))))) from set_upd x82 x85.toNat ((x82.getD x85.toNat D50).1, ((x82.getD x85.toNat D50).2.1, ((x82.getD x85.toNat D50).2.2.1, ((x82.getD x85.toNat D50).2.2.2.1, ((wr (((x83 ++ ([(x82.getD x85.toNat D50).2.2.2.2.1])).length : Int) - (1 : Int))), ((x82.getD x85.toNat D50).2.2.2.2.2.1, (x82.getD x85.toNat D50).2.2.2.2.2.2)))))) D50 (fun z => (z.1, (z.2.1, (z.2.2.1, (z.2.2.2.1, (z.2.2.2.2.1, (true, z.2.2.2.2.2.2))))))) (by first | (simp; done) | simpa using g120)]
      refine sN K [5, 6, 15, 16] [0, 1] ⟨[(5, hh 0), (6, hh 1), (15, I x84), (16, I x85)], [ar 0 Y50 (x82.set x85.toNat ((x82.getD x85.toNat D50).1, ((x82.getD x85.toNat D50).2.1, ((x82.getD x85.toNat D50).2.2.1, ((x82.getD x85.toNat D50).2.2.2.1, ((wr (((x83 ++ ([(x82.getD x85.toNat D50).2.2.2.2.1])).length : Int) - (1 : Int))), (true, (x82.getD x85.toNat D50).2.2.2.2.2.2))))))) .dp, ar 0 (.int .i64) (x83 ++ ([(x82.getD x85.toNat D50).2.2.2.2.1])) .dp]⟩ (tn 0) ?_
      exact arv [.ren [5, 6, 15, 16] [0, 1]] ⟨(x82.set x85.toNat ((x82.getD x85.toNat D50).1, ((x82.getD x85.toNat D50).2.1, ((x82.getD x85.toNat D50).2.2.1, ((x82.getD x85.toNat D50).2.2.2.1, ((wr (((x83 ++ ([(x82.getD x85.toNat D50).2.2.2.2.1])).length : Int) - (1 : Int))), (true, (x82.getD x85.toNat D50).2.2.2.2.2.2))))))), (x83 ++ ([(x82.getD x85.toNat D50).2.2.2.2.1])), rfl, h⟩
     refine VW.skip ?_
     exact arv [.ren [5, 6, 15, 16] [0, 1]] ⟨x82, x83, rfl, h⟩
    rintro s ⟨x111, x112, rfl, h⟩
    unfold F8_j1 at h
    refine nE K (tn 2) ?_
    exact aro [.ren [5, 6, 15, 16] [0, 1]] ⟨x111, x112, x84, (wr (x85 + (1 : Int))), rfl, h⟩
   refine VW.exit ?_
   exact arv [.ren [5, 6] [0, 1]] ⟨x82, x83, rfl, h⟩
 rintro s ⟨x61, x62, rfl, h⟩
 unfold F8_j0 at h
 refine nR K (tn 5) ?_
 cases h; exact VW.ret (rt [some 0, some 1])
def F42_j0 (N : Nat) : Option (Bool) :=
  some true
def F42_l0_b (N : Nat) (a0 : (List Z50)) (a1 : (List Z50)) (p2 : Z50 → Z50 → Option (Bool)) (nx39 : Int → Int → Option (Bool)) (x31 : Int) (x32 : Int) : Option (Bool) :=
  cond (decide (x32 < x31)) (gd (InR x32 a0.length) (gd (InR x32 a1.length) (andO (p2 (a0.getD x32.toNat (Ty.dflt Y50)) (a1.getD x32.toNat (Ty.dflt Y50))) fun y45 => cond (!y45) (some false) (nx39 x31 (IntKind.i64.wrap (x32 + (1 : Int))))))) (F42_j0 N)
def F42_l0 (N : Nat) (a0 : (List Z50)) (a1 : (List Z50)) (p2 : Z50 → Z50 → Option (Bool)) := loopF (F42_l0_b N a0 a1 p2) (fun _ _ => none)
theorem F42_l0_s N a0 a1 (p2 : Z50 → Z50 → Option (Bool)) {k} (hk : 0 < k) x31 x32 : F42_l0 N a0 a1 p2 k x31 x32 = F42_l0_b N a0 a1 p2 (F42_l0 N a0 a1 p2 (k - 1)) x31 x32 := by cases k;cases hk;rfl
def F42 (N : Nat) (a0 : (List Z50)) (a1 : (List Z50)) (p2 : Z50 → Z50 → Option (Bool)) : Option (Bool) :=
  cond ((a0.length : Int) != (a1.length : Int)) (some false) (F42_l0 N a0 a1 p2 N (a0.length : Int) (0 : Int))
theorem ok42 N a0 a1 (g2 : FuncId) (p2 : Z50 → Z50 → Option (Bool)) (hp2 : ∀ (z0 : Z50) (z1 : Z50) (r : Bool), p2 z0 z1 = some r → Con prog g2 [.agg (lv Y50 z0), .agg (lv Y50 z1)] [.lf (.v .bool r)]) {r} (h : F42 N a0 a1 p2 = some r) : Con prog 42 [Vv (.sl Y50) a0, Vv (.sl Y50) a1, .clo g2 []] [.lf (.v .bool r)] := by
 refine ctr [.lf (.v .bool)] K func42 rfl fun w0 E0 ht => ?_
 unfold F42 at h
 show VW _ _ _ _ _ (retQ _ _ _ _) _
 refine nR K (tn 1) <| sq <| nR K (tn 5) ?_
 refine cnd h ?_ ?_<;>intro h
 ·refine nR K (tn 1) ?_
  cases h; exact VW.ret (rt [])
 refine VW.skip ?_
 refine VW.join (fun s => s = ⟨[], []⟩ ∧ F42_j0 N = some r) ?_ ?_
 ·refine nR K (tn 3) <| VW.block <| lop (fun k s => ∃ x31 x32, s = ⟨[(1, Vv (.sl Y50) a1), (2, .clo g2 []), (15, Vv (.sl Y50) a0), (16, I x31), (17, I x32)], []⟩ ∧ F42_l0 N a0 a1 p2 k x31 x32 = some r) N [.ren [1, 2, 15, 16, 17] []] ⟨(a0.length : Int), (0 : Int), rfl, h⟩ ?_
  rintro k39 s ⟨x31, x32, rfl, h⟩
  cases k39 with
  | zero => cases show none = some r from h
  | succ k39 =>
   replace h : F42_l0_b N a0 a1 p2 (F42_l0 N a0 a1 p2 k39) x31 x32 = some r := h
   unfold F42_l0_b at h
   refine nR K (tn 1) <| sq ?_
   refine cnd h ?_ ?_<;>intro h
   ·refine VW.skip <| sq <| VW.block ?_
    obtain⟨g43,h⟩:=gS h
    refine nR K (pu 1 (an g43 (tn 4))) ?_
    obtain⟨g44,h⟩:=gS h
    refine nR K (pu 2 (an g44 (tn 3))) <| sq <| VW.region <| nG K 3 (tn 3) ?_
    obtain⟨y45,hy,h⟩:=aS h
    refine clc false [.t Y50, .t Y50] [] (some 29) K (hp2 _ _ _ hy) <| nN K (tn 1) ?_
    refine cnd h ?_ ?_<;>intro h
    ·refine nR K (tn 1) ?_
     cases h; exact VW.ret (rt [])
    refine VW.skip <| nE K (tn 2) ?_
    exact aro [.ren [1, 2, 15, 16, 17] []] ⟨x31, (wr (x32 + (1 : Int))), rfl, h⟩
   refine VW.exit ?_
   exact arv [.ren [] []] ⟨rfl, h⟩
 rintro s ⟨rfl, h⟩
 unfold F42_j0 at h
 refine nR K (tn 1) ?_
 cases h; exact VW.ret (rt [])
def F9 (N : Nat) (a0 : (List Z50)) (a1 : (List Z50)) : Option (Bool) :=
  andO (F42 N a0 a1 (fun z0 z1 => F43 N z0 z1)) fun y1 => some y1
theorem ok9 N a0 a1 {r} (h : F9 N a0 a1 = some r) : Con prog 9 [Vv (.sl Y50) a0, Vv (.sl Y50) a1] [.lf (.v .bool r)] := by
 refine ctr [.lf (.v .bool)] K func9 rfl fun w0 E0 ht => ?_
 unfold F9 at h
 show VW _ _ _ _ _ (retQ _ _ _ _) _
 refine nR K (tn 1) <| sq <| VW.region <| nG K 2 (tn 2) ?_
 obtain⟨y1,hy,h⟩:=aS h
 refine clc false [.t (.sl Y50), .t (.sl Y50), .clo []] [] (some 7) K (ok42 N _ _ 43  (fun z0 z1 => F43 N z0 z1 ) (fun z0 z1 _ hz => ok43 N z0 z1 hz) hy) <| nN K (tn 1) ?_
 cases h; exact VW.ret (rt [])
end Go.Proofs.YtmkhmpcealeidaaGreat.Vc
