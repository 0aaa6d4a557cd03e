/- What functions of the program compute, and that they do. -/
import Derived.Test.YtnkgeljjjeeaaaaGreatDoorXc
import Derived.Test.YtnkgeljjjeeaaaaGreatDoorProg
import Derived.Test.YtnkgeljjjeeaaaaGreatDoorShelf
namespace Go.Proofs.YtnkgeljjjeeaaaaGreatDoor.Vc
open Go Go.RowKit Go.Proofs.Tryz
set_option linter.unusedVariables false
set_option maxRecDepth 100000
set_option maxHeartbeats 4000000
abbrev Y7 : Ty := .pair (.int .i64) (.pair (.int .i64) (.pair .bool (.int .u8)))
abbrev Y13 : Ty := .pair .str (.int .u64)
abbrev Y53 : Ty := .pair (.int .i64) (.int .i64)
abbrev Z53 := (Int × Int)
abbrev Y73 : Ty := .pair (.int .i64) (.pair .str (.pair (.int .i64) (.pair (.int .i64) (.pair (.int .i64) (.pair .bool (.sl (.int .i64)))))))
abbrev Z73 := (Int × (ByteArray × (Int × (Int × (Int × (Bool × (List Int)))))))
abbrev Y77 : Ty := .pair .str (.int .i64)
abbrev Z77 := (ByteArray × Int)
abbrev Y102 : Ty := .pair (.sl (.int .u8)) Y53
abbrev Z102 := ((List Int) × Z53)
abbrev Y185 : Ty := .pair (.int .u8) (.int .u8)
abbrev D53 : (Y53).den := Ty.dflt Y53
abbrev D73 : (Y73).den := Ty.dflt Y73
abbrev D77 : (Y77).den := Ty.dflt Y77
def TL : List (Nat × TI) := [(2, { ty := (.int .i64) }),
  (3, { ty := (.int .i64) }),
  (4, { ty := .bool }),
  (5, { ty := (.int .u8) }),
  (6, { ty := (.int .u8) }),
  (7, { ty := Y7, offs := [0, 1, 2, 3], szs := [1, 1, 1, 1] }),
  (8, { ty := Y7, offs := [0, 1, 2, 3], szs := [1, 1, 1, 1] }),
  (9, { ty := .str }),
  (10, { ty := .str }),
  (11, { ty := .str }),
  (12, { ty := (.int .u64) }),
  (13, { ty := Y13, offs := [0, 1], szs := [1, 1] }),
  (14, { ty := Y13, offs := [0, 1], szs := [1, 1] }),
  (21, { ty := (.int .i32) }),
  (22, { ty := (.sl (.int .u8)), elem := 5 }),
  (24, { ty := (.sl Y77), elem := 78 }),
  (25, { ty := (.sl Y73), elem := 74 }),
  (43, { ty := (.sl Y53), elem := 54 }),
  (53, { ty := Y53, offs := [0, 1], szs := [1, 1] }),
  (54, { ty := Y53, offs := [0, 1], szs := [1, 1], cmp2 := true }),
  (56, { ty := (.sl (.int .i64)), elem := 3 }),
  (73, { ty := Y73, offs := [0, 1, 2, 3, 4, 5, 6], szs := [1, 1, 1, 1, 1, 1, 1] }),
  (74, { ty := Y73, offs := [0, 1, 2, 3, 4, 5, 6], szs := [1, 1, 1, 1, 1, 1, 1] }),
  (76, { ty := (.sl .str), elem := 9 }),
  (77, { ty := Y77, offs := [0, 1], szs := [1, 1] }),
  (78, { ty := Y77, offs := [0, 1], szs := [1, 1] }),
  (102, { ty := Y102, offs := [0, 1, 2], szs := [1, 1, 1] }),
  (103, { ty := Y102, offs := [0, 1, 2], szs := [1, 1, 1] }),
  (115, { ty := (.sl (.sl Y73)), elem := 25 }),
  (125, { ty := (.sl (.sl (.int .u8))), elem := 22 }),
  (138, { ty := (.int .u64) }),
  (156, { ty := (.int .i64) }),
  (163, { ty := (.int .u64) }),
  (170, { ty := (.int .u32) }),
  (185, { ty := Y185, offs := [0, 1], szs := [1, 1] }),
  (186, { ty := Y185, offs := [0, 1], szs := [1, 1] }),
  (202, { ty := (.int .u8) }),
  (203, { ty := (.int .u8) }),
  (205, { ty := (.int .i32) }),
  (206, { ty := (.int .i32) })]
abbrev T : Tab := lookT TL
theorem T_ok : TabOk Go.Proofs.Tryz.prog T := tabOk_of TL (by kernel_rfl)
theorem K : TabOk Go.Proofs.Tryz.prog T := T_ok
theorem T_rec : RecOk Go.Proofs.Tryz.prog T := recOk_of TL (by kernel_rfl)
def F5 (N : Nat) (a0 : (List Int)) : Option (Bool) :=
  some (decide ((a0.length : Int) > (1048576 : Int)))
theorem ok5 N a0 {r} (h : F5 N a0 = some r) : Con prog 5 [Vv (.sl (.int .u8)) a0] [.lf (.v .bool r)] := by
 refine ctr [.lf (.v .bool)] K func5 rfl fun w0 E0 ht => ?_
 unfold F5 at h
 show VW _ _ _ _ _ (retQ _ _ _ _) _
 refine nR K (tn 1) <| nR K (tn 4) ?_
 cases h; exact VW.ret (rt [])
def F34_j0 (N : Nat) (a0 : (List Int)) (x11 : Int) : Option (Z102) :=
  some (a0, ((0 : Int), x11))
def F34_l0_b (N : Nat) (a0 : (List Int)) (nx20 : Int → Int → Option (Z102)) (x16 : Int) (x17 : Int) : Option (Z102) :=
  cond (decide (x17 < (a0.length : Int))) (cond (decide (x17 < (4000 : Int))) (gd (InR x17 a0.length) (nx20 (IntKind.i64.wrap (((BitVec.ofInt IntKind.i64.bits (IntKind.i64.wrap ((IntKind.i64.wrap ((IntKind.i64.wrap (x16 * (149 : Int))) + (IntKind.i64.wrap (a0.getD x17.toNat (Ty.dflt (.int .u8)))))) + (11 : Int))) &&& BitVec.ofInt IntKind.i64.bits (1073741823 : Int)).toNat : Nat) : Int)) (IntKind.i64.wrap (x17 + (1 : Int))))) (F34_j0 N a0 x16)) (F34_j0 N a0 x16)
def F34_l0 (N : Nat) (a0 : (List Int)) := loopF (F34_l0_b N a0) (fun _ _ => none)
theorem F34_l0_s N a0 {k} (hk : 0 < k) x16 x17 : F34_l0 N a0 k x16 x17 = F34_l0_b N a0 (F34_l0 N a0 (k - 1)) x16 x17 := by cases k;cases hk;rfl
def F34 (N : Nat) (a0 : (List Int)) : Option (Z102) :=
  F34_l0 N a0 N (IntKind.i64.wrap ((844844 : Int) + (a0.length : Int))) (0 : Int)
theorem ok34 N a0 {r} (h : F34 N a0 = some r) : ConB prog 34 [Vv (.sl (.int .u8)) a0] [.v (.sl (.int .u8)) r.1, .v (.int .i64) r.2.1, .v (.int .i64) r.2.2] 103 := by
 refine ⟨enters_of func34 rfl (by decide), by kernel_rfl, HB.intro (d := 2) func34 rfl (Nat.le_of_ble_eq_true rfl) (Nat.le_of_ble_eq_true rfl) rfl (by kernel_rfl) fun w0 E0 ht => ?_⟩
 unfold F34 at h
 show VW _ _ _ _ _ (retB _ _ _) _
 refine nR K (tn 1) <| nR K (tn 4) ?_
 refine VW.join (fun s => ∃ x11, s = ⟨[(0, Vv (.sl (.int .u8)) a0), (3, I x11)], []⟩ ∧ F34_j0 N a0 x11 = some r) ?_ ?_
 ·refine nR K (tn 1) <| VW.block <| lop (fun k s => ∃ x16 x17, s = ⟨[(0, Vv (.sl (.int .u8)) a0), (3, I x16), (4, I x17)], []⟩ ∧ F34_l0 N a0 k x16 x17 = some r) N [.ren [0, 3, 4] []] ⟨(wr ((844844 : Int) + (a0.length : Int))), (0 : Int), rfl, h⟩ ?_
  rintro k20 s ⟨x16, x17, rfl, h⟩
  cases k20 with
  | zero => cases show none = some r from h
  | succ k20 =>
   replace h : F34_l0_b N a0 (F34_l0 N a0 k20) x16 x17 = some r := h
   unfold F34_l0_b at h
   refine sq <| sq <| VW.region <| nG K 5 (tn 5) ?_
   refine spC 12 h ?_ ?_<;>intro h
   ·refine nN K (tn 3) ?_
    refine cnd h ?_ ?_<;>intro h
    ·refine VW.skip <| sq <| VW.block ?_
     obtain⟨g22,h⟩:=gS h
     refine nE K (pu 4 (an g22 (tn 6))) <| nE K (tn 3) ?_
     exact aro [.ren [0, 3, 4] []] ⟨(wr (((BitVec.ofInt IntKind.i64.bits (wr ((wr ((wr (x16 * (149 : Int))) + (wr (a0.getD x17.toNat (Ty.dflt (.int .u8)))))) + (11 : Int))) &&& BitVec.ofInt IntKind.i64.bits (1073741823 : Int)).toNat : Nat) : Int)), (wr (x17 + (1 : Int))), rfl, h⟩
    refine VW.exit ?_
    exact arv [.ren [0, 3] []] ⟨x16, rfl, h⟩
   refine nN K (tn 3) ?_
   refine VW.cond (b := false) (by kernel_rfl) (fun h' => nomatch h') (fun _ => ?_)
   refine VW.exit ?_
   exact arv [.ren [0, 3] []] ⟨x16, rfl, h⟩
 rintro s ⟨x11, rfl, h⟩
 unfold F34_j0 at h
 refine nR K (tn 5) ?_
 replace h := Option.some.inj h
 subst h
 refine VW.ret ?_
 exact ⟨0, 0, by kernel_rfl, by kernel_rfl⟩
def F91_j0 (N : Nat) (x2 : Int) (x3 : (List Int)) (x4 : Int) (x5 : Int) : Option (Z102 × Int) :=
  some ((x3, (x4, x5)), x2)
def F91 (N : Nat) (a0 : Z102) : Option (Z102 × Int) :=
  cond (decide (a0.2.1 < (a0.1.length : Int))) (gd (InR a0.2.1 a0.1.length) (F91_j0 N (IntKind.i64.wrap (((BitVec.ofInt IntKind.i64.bits (IntKind.i64.wrap ((IntKind.i64.wrap (((BitVec.ofInt IntKind.i64.bits (IntKind.i64.wrap (((BitVec.ofInt IntKind.i64.bits (Int.fdiv (IntKind.i64.wrap ((IntKind.i64.wrap (a0.2.2 * (6364136223846793005 : Int))) + (1442695040888963407 : Int))) (2 ^ (min (33 : Int).toNat IntKind.i64.bits))) ^^^ BitVec.ofInt IntKind.i64.bits (Int.fdiv (IntKind.i64.wrap ((IntKind.i64.wrap (a0.2.2 * (6364136223846793005 : Int))) + (1442695040888963407 : Int))) (2 ^ (min (45 : Int).toNat IntKind.i64.bits)))).toNat : Nat) : Int)) &&& BitVec.ofInt IntKind.i64.bits (255 : Int)).toNat : Nat) : Int)) + (IntKind.i64.wrap (a0.1.getD a0.2.1.toNat (Ty.dflt (.int .u8)))))) &&& BitVec.ofInt IntKind.i64.bits (255 : Int)).toNat : Nat) : Int)) a0.1 (IntKind.i64.wrap (a0.2.1 + (1 : Int))) (IntKind.i64.wrap ((IntKind.i64.wrap (a0.2.2 * (6364136223846793005 : Int))) + (1442695040888963407 : Int))))) (F91_j0 N (IntKind.i64.wrap (((BitVec.ofInt IntKind.i64.bits (IntKind.i64.wrap (((BitVec.ofInt IntKind.i64.bits (Int.fdiv (IntKind.i64.wrap ((IntKind.i64.wrap (a0.2.2 * (6364136223846793005 : Int))) + (1442695040888963407 : Int))) (2 ^ (min (33 : Int).toNat IntKind.i64.bits))) ^^^ BitVec.ofInt IntKind.i64.bits (Int.fdiv (IntKind.i64.wrap ((IntKind.i64.wrap (a0.2.2 * (6364136223846793005 : Int))) + (1442695040888963407 : Int))) (2 ^ (min (45 : Int).toNat IntKind.i64.bits)))).toNat : Nat) : Int)) &&& BitVec.ofInt IntKind.i64.bits (255 : Int)).toNat : Nat) : Int)) a0.1 a0.2.1 (IntKind.i64.wrap ((IntKind.i64.wrap (a0.2.2 * (6364136223846793005 : Int))) + (1442695040888963407 : Int))))
theorem ok91 N a0 {r} (h : F91 N a0 = some r) : ConM prog 91 [bx (lv Y102 a0) 103] [.lf (.ptr 0 0 0 0)] [.lf (.v (.int .i64) r.2)] [bx (lv Y102 r.1) 103] := by
 refine ⟨enters_of func91 rfl (by decide), HM.intro [.lf (.v (.int .i64))] K func91 rfl (Nat.le_of_ble_eq_true rfl) (Nat.le_of_ble_eq_true rfl) fun w0 E0 ht => ?_⟩
 unfold F91 at h
 show VW _ _ _ _ _ (retM _ _ _ _ _) _
 refine nR K (tn 1) <| nR K (tn 10) <| sq <| dr K [] [] [] [0, 3, 65536] [0] (pu 4 (an (show (0 ≤ (33 : Int)) from by decide) (pu 4 (an (show (0 ≤ (45 : Int)) from by decide) (tn 3))))) trivial ?_
 refine VW.join (fun s => ∃ x2 x3 x4 x5, s = ⟨[(3, I x2), (65536, .lf (.ptr 0 0 0 0))], [bx [.v (.sl (.int .u8)) x3, zi x4, zi x5] 103]⟩ ∧ F91_j0 N x2 x3 x4 x5 = some r) ?_ ?_
 ·refine sq <| dr K [] [] [] [0, 3, 34, 65536] [0] (tn 10) trivial ?_
  refine cnd h ?_ ?_<;>intro h
  ·refine sq ?_
   obtain⟨g7,h⟩:=gS h
   refine dr K [] [] [] [0, 3, 65536] [0] (pu 9 (an g7 (tn 5))) trivial <| nE K (tn 9) ?_
   exact arv [.ren [3, 65536] [0]] ⟨(wr (((BitVec.ofInt IntKind.i64.bits (wr ((wr (((BitVec.ofInt IntKind.i64.bits (wr (((BitVec.ofInt IntKind.i64.bits (Int.fdiv (wr ((wr (a0.2.2 * (6364136223846793005 : Int))) + (1442695040888963407 : Int))) (2 ^ (min (33 : Int).toNat IntKind.i64.bits))) ^^^ BitVec.ofInt IntKind.i64.bits (Int.fdiv (wr ((wr (a0.2.2 * (6364136223846793005 : Int))) + (1442695040888963407 : Int))) (2 ^ (min (45 : Int).toNat IntKind.i64.bits)))).toNat : Nat) : Int)) &&& BitVec.ofInt IntKind.i64.bits (255 : Int)).toNat : Nat) : Int)) + (wr (a0.1.getD a0.2.1.toNat (Ty.dflt (.int .u8)))))) &&& BitVec.ofInt IntKind.i64.bits (255 : Int)).toNat : Nat) : Int)), a0.1, (wr (a0.2.1 + (1 : Int))), (wr ((wr (a0.2.2 * (6364136223846793005 : Int))) + (1442695040888963407 : Int))), rfl, h⟩
  refine VW.skip ?_
  exact arv [.ren [3, 65536] [0]] ⟨(wr (((BitVec.ofInt IntKind.i64.bits (wr (((BitVec.ofInt IntKind.i64.bits (Int.fdiv (wr ((wr (a0.2.2 * (6364136223846793005 : Int))) + (1442695040888963407 : Int))) (2 ^ (min (33 : Int).toNat IntKind.i64.bits))) ^^^ BitVec.ofInt IntKind.i64.bits (Int.fdiv (wr ((wr (a0.2.2 * (6364136223846793005 : Int))) + (1442695040888963407 : Int))) (2 ^ (min (45 : Int).toNat IntKind.i64.bits)))).toNat : Nat) : Int)) &&& BitVec.ofInt IntKind.i64.bits (255 : Int)).toNat : Nat) : Int)), a0.1, a0.2.1, (wr ((wr (a0.2.2 * (6364136223846793005 : Int))) + (1442695040888963407 : Int))), rfl, h⟩
 rintro s ⟨x2, x3, x4, x5, rfl, h⟩
 unfold F91_j0 at h
 refine nR K (tn 2) ?_
 replace h := Option.some.inj h
 subst h
 refine VW.ghl [.ren [2, 65536] [0]] (VW.ret ?_)
 exact ⟨[], by kernel_rfl, by kernel_rfl, by kernel_rfl⟩
def F42 (N : Nat) (a0 : Z102) (a1 : Int) : Option (Z102 × Int) :=
  cond (decide (a1 ≤ (0 : Int))) (some (a0, (0 : Int))) (cond (decide (a1 ≤ (256 : Int))) (andO (F91 N a0) fun y3 => gd (a1 ≠ 0) (some (y3.1, (Int.tmod y3.2 a1)))) (andO (F91 N a0) fun y5 => andO (F91 N y5.1) fun y6 => andO (F91 N y6.1) fun y7 => gd (a1 ≠ 0) (some (y7.1, (Int.tmod (IntKind.i64.wrap ((IntKind.i64.wrap ((IntKind.i64.wrap (y5.2 * (65536 : Int))) + (IntKind.i64.wrap (y6.2 * (256 : Int))))) + y7.2)) a1)))))
theorem ok42 N a0 a1 {r} (h : F42 N a0 a1 = some r) : ConM prog 42 [bx (lv Y102 a0) 103] [.lf (.ptr 0 0 0 0), I a1] [.lf (.v (.int .i64) r.2)] [bx (lv Y102 r.1) 103] := by
 refine ⟨enters_of func42 rfl (by decide), HM.intro [.lf (.v (.int .i64))] K func42 rfl (Nat.le_of_ble_eq_true rfl) (Nat.le_of_ble_eq_true rfl) fun w0 E0 ht => ?_⟩
 unfold F42 at h
 show VW _ _ _ _ _ (retM _ _ _ _ _) _
 refine nR K (tn 1) <| sq <| nR K (tn 2) ?_
 refine cnd h ?_ ?_<;>intro h
 ·refine nR K (tn 1) ?_
  replace h := Option.some.inj h
  subst h
  refine VW.ghl [.ren [4, 65536] [0]] (VW.ret ?_)
  exact ⟨[], by kernel_rfl, by kernel_rfl, by kernel_rfl⟩
 refine VW.skip <| sq <| nR K (tn 2) ?_
 refine cnd h ?_ ?_<;>intro h
 ·refine sq <| VW.region <| nG K 1 (tn 1) ?_
  obtain⟨y3,hy,h⟩:=aS h
  refine VO.callM [0] [.r] (d := some 13) (by kernel_rfl) (by kernel_rfl) (ok91 N _ hy) (by kernel_rfl) ?_
  obtain⟨g4,h⟩:=gS h
  refine nN K (pu 1 (an g4 (tn 1))) ?_
  replace h := Option.some.inj h
  subst h
  refine VW.ghl [.ren [4, 65536] [0]] (VW.ret ?_)
  exact ⟨[], by kernel_rfl, by kernel_rfl, by kernel_rfl⟩
 refine VW.skip <| sq <| VW.region <| nG K 1 (tn 1) ?_
 obtain⟨y5,hy,h⟩:=aS h
 refine VO.callM [0] [.r] (d := some 17) (by kernel_rfl) (by kernel_rfl) (ok91 N _ hy) (by kernel_rfl) <| nN K (tn 1) <| sq <| VW.region <| nG K 1 (tn 1) ?_
 obtain⟨y6,hy,h⟩:=aS h
 refine VO.callM [0] [.r] (d := some 19) (by kernel_rfl) (by kernel_rfl) (ok91 N _ hy) (by kernel_rfl) <| nN K (tn 1) <| sq <| VW.region <| nG K 1 (tn 1) ?_
 obtain⟨y7,hy,h⟩:=aS h
 refine VO.callM [0] [.r] (d := some 21) (by kernel_rfl) (by kernel_rfl) (ok91 N _ hy) (by kernel_rfl) <| nN K (tn 1) ?_
 obtain⟨g8,h⟩:=gS h
 refine nR K (pu 8 (an g8 (tn 1))) ?_
 replace h := Option.some.inj h
 subst h
 refine VW.ghl [.ren [4, 65536] [0]] (VW.ret ?_)
 exact ⟨[], by kernel_rfl, by kernel_rfl, by kernel_rfl⟩
def F67 (N : Nat) (a0 : Z102) (a1 : Int) : Option (Z102 × Bool) :=
  andO (F42 N a0 a1) fun y1 => some (y1.1, (y1.2 == (0 : Int)))
theorem ok67 N a0 a1 {r} (h : F67 N a0 a1 = some r) : ConM prog 67 [bx (lv Y102 a0) 103] [.lf (.ptr 0 0 0 0), I a1] [.lf (.v .bool r.2)] [bx (lv Y102 r.1) 103] := by
 refine ⟨enters_of func67 rfl (by decide), HM.intro [.lf (.v .bool)] K func67 rfl (Nat.le_of_ble_eq_true rfl) (Nat.le_of_ble_eq_true rfl) fun w0 E0 ht => ?_⟩
 unfold F67 at h
 show VW _ _ _ _ _ (retM _ _ _ _ _) _
 refine nR K (tn 1) <| sq <| VW.region <| nG K 2 (tn 2) ?_
 obtain⟨y1,hy,h⟩:=aS h
 refine VO.callM [0] [.r, .t (.int .i64)] (d := some 7) (by kernel_rfl) (by kernel_rfl) (ok42 N _ _ hy) (by kernel_rfl) <| nN K (tn 2) ?_
 replace h := Option.some.inj h
 subst h
 refine VW.ghl [.ren [4, 65536] [0]] (VW.ret ?_)
 exact ⟨[], by kernel_rfl, by kernel_rfl, by kernel_rfl⟩
def F75 (N : Nat) : Option ((List Z77)) :=
  some ([((⟨#[116, 49]⟩ : ByteArray), (2 : Int)), ((⟨#[116, 50]⟩ : ByteArray), (3 : Int)), ((⟨#[116, 51]⟩ : ByteArray), (1 : Int))])
theorem ok75 N {r} (h : F75 N  = some r) : Con prog 75 [] [.lf (.own Y77 r .dp)] := by
 refine ctr [.lf (.own Y77 .dp)] K func75 rfl fun w0 E0 ht => ?_
 unfold F75 at h
 show VW _ _ _ _ _ (retQ _ _ _ _) _
 refine nR K (tn 1) <| nR K (tn 5) ?_
 cases h; exact VW.ret (rt [some 0])
def F76 (N : Nat) (a0 : Z102) (a1 : (List Int)) : Option (Z102 × Int) :=
  andO (F42 N a0 (a1.length : Int)) fun y1 => gd (InR y1.2 a1.length) (some (y1.1, (a1.getD y1.2.toNat (Ty.dflt (.int .i64)))))
theorem ok76 N a0 a1 {r} (h : F76 N a0 a1 = some r) : ConM prog 76 [bx (lv Y102 a0) 103] [.lf (.ptr 0 0 0 0), Vv (.sl (.int .i64)) a1] [.lf (.v (.int .i64) r.2)] [bx (lv Y102 r.1) 103] := by
 refine ⟨enters_of func76 rfl (by decide), HM.intro [.lf (.v (.int .i64))] K func76 rfl (Nat.le_of_ble_eq_true rfl) (Nat.le_of_ble_eq_true rfl) fun w0 E0 ht => ?_⟩
 unfold F76 at h
 show VW _ _ _ _ _ (retM _ _ _ _ _) _
 refine nR K (tn 1) <| sq <| VW.region <| nG K 4 (tn 4) ?_
 obtain⟨y1,hy,h⟩:=aS h
 refine VO.callM [0] [.r, .t (.int .i64)] (d := some 9) (by kernel_rfl) (by kernel_rfl) (ok42 N _ _ hy) (by kernel_rfl) ?_
 obtain⟨g2,h⟩:=gS h
 refine nN K (an g2 (tn 2)) ?_
 replace h := Option.some.inj h
 subst h
 refine VW.ghl [.ren [4, 65536] [0]] (VW.ret ?_)
 exact ⟨[], by kernel_rfl, by kernel_rfl, by kernel_rfl⟩
def F77 (N : Nat) (a0 : Z102) (a1 : (List ByteArray)) : Option (Z102 × ByteArray) :=
  andO (F42 N a0 (a1.length : Int)) fun y1 => gd (InR y1.2 a1.length) (some (y1.1, (a1.getD y1.2.toNat (Ty.dflt .str))))
theorem ok77 N a0 a1 {r} (h : F77 N a0 a1 = some r) : ConM prog 77 [bx (lv Y102 a0) 103] [.lf (.ptr 0 0 0 0), Vv (.sl .str) a1] [.lf (.v .str r.2)] [bx (lv Y102 r.1) 103] := by
 refine ⟨enters_of func77 rfl (by decide), HM.intro [.lf (.v .str)] K func77 rfl (Nat.le_of_ble_eq_true rfl) (Nat.le_of_ble_eq_true rfl) fun w0 E0 ht => ?_⟩
 unfold F77 at h
 show VW _ _ _ _ _ (retM _ _ _ _ _) _
 refine nR K (tn 1) <| sq <| VW.region <| nG K 4 (tn 4) ?_
 obtain⟨y1,hy,h⟩:=aS h
 refine VO.callM [0] [.r, .t (.int .i64)] (d := some 9) (by kernel_rfl) (by kernel_rfl) (ok42 N _ _ hy) (by kernel_rfl) ?_
 obtain⟨g2,h⟩:=gS h
 refine nN K (an g2 (tn 2)) ?_
 replace h := Option.some.inj h
 subst h
 refine VW.ghl [.ren [4, 65536] [0]] (VW.ret ?_)
 exact ⟨[], by kernel_rfl, by kernel_rfl, by kernel_rfl⟩
def F78_j0 (N : Nat) (x15 : ByteArray) (x16 : Bool) : Option (ByteArray) :=
  cond x16 (gd ((⟨#[45]⟩ : ByteArray).size + x15.size ≤ 9223372036854775807) (some ((⟨#[45]⟩ : ByteArray) ++ x15))) (some x15)
def F78_j1 (N : Nat) (nx30 : Int → ByteArray → Bool → Option (ByteArray)) (x24 : Int) (x25 : ByteArray) (x26 : Bool) (x31 : Int) : Option (ByteArray) :=
  gd ((strOfNums ([(IntKind.u8.wrap (IntKind.i64.wrap ((48 : Int) + x31)))])).size + x25.size ≤ 9223372036854775807) (nx30 (IntKind.i64.wrap (Int.tdiv x24 (10 : Int))) ((strOfNums ([(IntKind.u8.wrap (IntKind.i64.wrap ((48 : Int) + x31)))])) ++ x25) x26)
def F78_l0_b (N : Nat) (nx30 : Int → ByteArray → Bool → Option (ByteArray)) (x24 : Int) (x25 : ByteArray) (x26 : Bool) : Option (ByteArray) :=
  cond (x24 != (0 : Int)) (cond (decide ((Int.tmod x24 (10 : Int)) < (0 : Int))) (F78_j1 N nx30 x24 x25 x26 (IntKind.i64.wrap ((0 : Int) - (Int.tmod x24 (10 : Int))))) (F78_j1 N nx30 x24 x25 x26 (Int.tmod x24 (10 : Int)))) (F78_j0 N x25 x26)
def F78_l0 (N : Nat) := loopF (F78_l0_b N) (fun _ _ _ => none)
theorem F78_l0_s N {k} (hk : 0 < k) x24 x25 x26 : F78_l0 N k x24 x25 x26 = F78_l0_b N (F78_l0 N (k - 1)) x24 x25 x26 := by cases k;cases hk;rfl
def F78 (N : Nat) (a0 : Int) : Option (ByteArray) :=
  cond (a0 == (0 : Int)) (some (⟨#[48]⟩ : ByteArray)) (F78_l0 N N a0 ByteArray.empty (decide (a0 < (0 : Int))))
theorem ok78 N a0 {r} (h : F78 N a0 = some r) : Con prog 78 [I a0] [.lf (.v .str r)] := by
 refine ctr [.lf (.v .str)] K func78 rfl fun w0 E0 ht => ?_
 unfold F78 at h
 show VW _ _ _ _ _ (retQ _ _ _ _) _
 refine nR K (tn 1) <| sq <| nR K (tn 2) ?_
 refine cnd h ?_ ?_<;>intro h
 ·refine nR K (tn 1) ?_
  cases h; exact VW.ret (rt [])
 refine VW.skip <| nR K (tn 1) <| nR K (tn 3) ?_
 refine VW.join (fun s => ∃ x15 x16, s = ⟨[(3, S x15), (4, B x16)], []⟩ ∧ F78_j0 N x15 x16 = some r) ?_ ?_
 ·refine VW.block <| lop (fun k s => ∃ x24 x25 x26, s = ⟨[(0, I x24), (3, S x25), (4, B x26)], []⟩ ∧ F78_l0 N k x24 x25 x26 = some r) N [.ren [0, 3, 4] []] ⟨a0, ByteArray.empty, (decide (a0 < (0 : Int))), rfl, h⟩ ?_
  rintro k30 s ⟨x24, x25, x26, rfl, h⟩
  cases k30 with
  | zero => cases show none = some r from h
  | succ k30 =>
   replace h : F78_l0_b N (F78_l0 N k30) x24 x25 x26 = some r := h
   unfold F78_l0_b at h
   refine sq <| nR K (tn 2) ?_
   refine cnd h ?_ ?_<;>intro h
   ·refine VW.skip <| VW.block <| nR K (pu 1 (an (show ((10 : Int) ≠ 0) from by decide) (tn 1))) ?_
    refine VW.join (fun s => ∃ x31, s = ⟨[(0, I x24), (3, S x25), (4, B x26), (5, I x31)], []⟩ ∧ F78_j1 N (F78_l0 N k30) x24 x25 x26 x31 = some r) ?_ ?_
    ·refine nR K (tn 2) ?_
     refine cnd h ?_ ?_<;>intro h
     ·refine nE K (tn 3) ?_
      exact arv [.ren [0, 3, 4, 5] []] ⟨(wr ((0 : Int) - (Int.tmod x24 (10 : Int)))), rfl, h⟩
     refine VW.skip ?_
     exact arv [.ren [0, 3, 4, 5] []] ⟨(Int.tmod x24 (10 : Int)), rfl, h⟩
    rintro s ⟨x31, rfl, h⟩
    unfold F78_j1 at h
    obtain⟨g32,h⟩:=gS h
    refine nR K (pu 6 (an g32 (tn 1))) <| nE K (pu 1 (an (show ((10 : Int) ≠ 0) from by decide) (tn 1))) ?_
    exact aro [.ren [0, 3, 4] []] ⟨(wr (Int.tdiv x24 (10 : Int))), ((strOfNums ([(IntKind.u8.wrap (wr ((48 : Int) + x31)))])) ++ x25), x26, rfl, h⟩
   refine VW.exit ?_
   exact arv [.ren [3, 4] []] ⟨x25, x26, rfl, h⟩
 rintro s ⟨x15, x16, rfl, h⟩
 unfold F78_j0 at h
 refine sq <| nR K (tn 1) ?_
 refine cnd h ?_ ?_<;>intro h
 ·obtain⟨g18,h⟩:=gS h
  refine nR K (pu 1 (an g18 (tn 1))) ?_
  cases h; exact VW.ret (rt [])
 refine VW.skip <| nR K (tn 2) ?_
 cases h; exact VW.ret (rt [])
def F35_j0 (N : Nat) (x35 : (List Z77)) (x36 : (List Int)) (x37 : Int) (x38 : Int) : Option (Z102 × (List Z77)) :=
  some ((x36, (x37, x38)), x35)
def F35_l0_b (N : Nat) (nx67 : (List Int) → Int → Int → (List Z77) → Option (Z102 × (List Z77))) (x58 : (List Int)) (x59 : Int) (x60 : Int) (x61 : (List Z77)) : Option (Z102 × (List Z77)) :=
  andO (F42 N (x58, (x59, x60)) (2 : Int)) fun y69 => cond (decide ((x61.length : Int) < (IntKind.i64.wrap ((8 : Int) + y69.2)))) (andO (F78 N (x61.length : Int)) fun y70 => gd ((⟨#[122]⟩ : ByteArray).size + y70.size ≤ 9223372036854775807) (gd (x61.length + ([(((⟨#[122]⟩ : ByteArray) ++ y70), (1 : Int))]).length ≤ lim Y77) (nx67 y69.1.1 y69.1.2.1 y69.1.2.2 (x61 ++ ([(((⟨#[122]⟩ : ByteArray) ++ y70), (1 : Int))]))))) (F35_j0 N x61 y69.1.1 y69.1.2.1 y69.1.2.2)
def F35_l0 (N : Nat) := loopF (F35_l0_b N) (fun _ _ _ _ => none)
theorem F35_l0_s N {k} (hk : 0 < k) x58 x59 x60 x61 : F35_l0 N k x58 x59 x60 x61 = F35_l0_b N (F35_l0 N (k - 1)) x58 x59 x60 x61 := by cases k;cases hk;rfl
def F35 (N : Nat) (a0 : Z102) : Option (Z102 × (List Z77)) :=
  andO (F75 N ) fun y1 => andO (F67 N a0 (6 : Int)) fun y40 => cond y40.2 (andO (F42 N y40.1 (3 : Int)) fun y41 => andO (F42 N y41.1 (4 : Int)) fun y42 => cond (y42.2 == (0 : Int)) (andO (F76 N y42.1 ([(0 : Int), (1 : Int), (6 : Int), (7 : Int)])) fun y43 => gd (InR y41.2 y1.length) (gd (y41.2.toNat < y1.length) (F35_j0 N (y1.set y41.2.toNat ((y1.getD y41.2.toNat (Ty.dflt Y77)).1, y43.2)) y43.1.1 y43.1.2.1 y43.1.2.2))) (cond (y42.2 == (1 : Int)) (andO (F77 N y42.1 ([ByteArray.empty, (⟨#[116, 49]⟩ : ByteArray), (⟨#[116, 57]⟩ : ByteArray), (⟨#[65]⟩ : ByteArray)])) fun y46 => gd (InR y41.2 y1.length) (gd (y41.2.toNat < y1.length) (F35_j0 N (y1.set y41.2.toNat (y46.2, (y1.getD y41.2.toNat (Ty.dflt Y77)).2)) y46.1.1 y46.1.2.1 y46.1.2.2))) (cond (y42.2 == (2 : Int)) (gd (0 ≤ y41.2 ∧ y41.2 ≤ (y1.length : Int)) (F35_j0 N (y1.take y41.2.toNat) y42.1.1 y42.1.2.1 y42.1.2.2)) (cond (y42.2 == (3 : Int)) (F35_l0 N N y42.1.1 y42.1.2.1 y42.1.2.2 y1) (F35_j0 N y1 y42.1.1 y42.1.2.1 y42.1.2.2))))) (F35_j0 N y1 y40.1.1 y40.1.2.1 y40.1.2.2)
theorem ok35 N a0 {r} (h : F35 N a0 = some r) : ConM prog 35 [bx (lv Y102 a0) 103] [.lf (.ptr 0 0 0 0)] [.lf (.own Y77 r.2 .dp)] [bx (lv Y102 r.1) 103] := by
 refine ⟨enters_of func35 rfl (by decide), HM.intro [.lf (.own Y77 .dp)] K func35 rfl (Nat.le_of_ble_eq_true rfl) (Nat.le_of_ble_eq_true rfl) fun w0 E0 ht => ?_⟩
 unfold F35 at h
 show VW _ _ _ _ _ (retM _ _ _ _ _) _
 refine nR K (tn 1) <| sq <| VW.region ?_
 obtain⟨y1,hy,h⟩:=aS h
 refine clc false [] [] (some 5) K (ok75 N  hy) <| nN K (tn 1) ?_
 refine VW.join (fun s => ∃ x35 x36 x37 x38, s = ⟨[(3, hh 0), (65536, .lf (.ptr 1 0 0 0))], [ar 0 Y77 x35 .dp, bx [.v (.sl (.int .u8)) x36, zi x37, zi x38] 103]⟩ ∧ F35_j0 N x35 x36 x37 x38 = some r) ?_ ?_
 ·refine sq <| VW.region <| nG K 1 (tn 1) ?_
  obtain⟨y40,hy,h⟩:=aS h
  refine VO.callM [0] [.r, .t (.int .i64)] (d := some 7) (by kernel_rfl) (by kernel_rfl) (ok67 N _ _ hy) (by kernel_rfl) <| nN K (tn 0) ?_
  refine cnd h ?_ ?_<;>intro h
  ·refine sq <| VW.region <| nG K 1 (tn 1) ?_
   obtain⟨y41,hy,h⟩:=aS h
   refine VO.callM [0] [.r, .t (.int .i64)] (d := some 9) (by kernel_rfl) (by kernel_rfl) (ok42 N _ _ hy) (by kernel_rfl) <| nN K (tn 1) <| sq <| VW.region <| nG K 1 (tn 1) ?_
   obtain⟨y42,hy,h⟩:=aS h
   refine VO.callM [0] [.r, .t (.int .i64)] (d := some 11) (by kernel_rfl) (by kernel_rfl) (ok42 N _ _ hy) (by kernel_rfl) <| nN K (tn 0) <| VW.block <| nR K (tn 2) ?_
   refine cnd h ?_ ?_<;>intro h
   ·refine VW.region <| nG K 4 (tn 4) ?_
    obtain⟨y43,hy,h⟩:=aS h
    refine VO.ghl [.frz 2] <| VO.callM [0] [.r, .t (.sl (.int .i64))] (d := some 18) (by kernel_rfl) (by kernel_rfl) (ok76 N _ _ hy) (by kernel_rfl) ?_
    obtain⟨g44,h⟩:=gS h
    obtain⟨g45,h⟩:=gS h
    refine nN K (an g44 (pu 1 (an g45 (tn 0)))) ?_
    exact arv [.ren [3, 65536] [1, 0]] ⟨(y1.set y41.2.toNat ((y1.getD y41.2.toNat D77).1, y43.2)), y43.1.1, y43.1.2.1, y43.1.2.2, rfl, h⟩
   refine nR K (tn 2) ?_
   refine cnd h ?_ ?_<;>intro h
   ·refine VW.region <| nG K 4 (tn 4) ?_
    obtain⟨y46,hy,h⟩:=aS h
    refine VO.ghl [.frz 2] <| VO.callM [0] [.r, .t (.sl .str)] (d := some 27) (by kernel_rfl) (by kernel_rfl) (ok77 N _ _ hy) (by kernel_rfl) ?_
    obtain⟨g47,h⟩:=gS h
    obtain⟨g48,h⟩:=gS h
    refine nN K (an g47 (pu 1 (an g48 (tn 0)))) ?_
    exact arv [.ren [3, 65536] [1, 0]] ⟨(y1.set y41.2.toNat (y46.2, (y1.getD y41.2.toNat D77).2)), y46.1.1, y46.1.2.1, y46.1.2.2, rfl, h⟩
   refine nR K (tn 2) ?_
   refine cnd h ?_ ?_<;>intro h
   ·obtain⟨g49,h⟩:=gS h
    refine nE K (pu 2 (an g49 (tn 1))) ?_
    exact arv [.shr 3, .ren [3, 65536] [1, 0]] ⟨(y1.take y41.2.toNat), y42.1.1, y42.1.2.1, y42.1.2.2, rfl, h⟩
   refine nR K (tn 2) ?_
   refine cnd h ?_ ?_<;>intro h
   ·refine VW.block <| lop (fun k s => ∃ x58 x59 x60 x61, s = ⟨[(0, .lf (.ptr 0 0 0 0)), (3, hh 1), (65536, .lf (.ptr 0 0 0 0))], [bx [.v (.sl (.int .u8)) x58, zi x59, zi x60] 103, ar 0 Y77 x61 .dp]⟩ ∧ F35_l0 N k x58 x59 x60 x61 = some r) N [.ren [0, 3, 65536] [0, 1]] ⟨y42.1.1, y42.1.2.1, y42.1.2.2, y1, rfl, h⟩ ?_
    rintro k67 s ⟨x58, x59, x60, x61, rfl, h⟩
    cases k67 with
    | zero => cases show none = some r from h
    | succ k67 =>
     replace h : F35_l0_b N (F35_l0 N k67) x58 x59 x60 x61 = some r := h
     unfold F35_l0_b at h
     refine sq <| sq <| VW.region <| nG K 3 (tn 3) ?_
     obtain⟨y69,hy,h⟩:=aS h
     refine VO.callM [0] [.r, .t (.int .i64)] (d := some 40) (by kernel_rfl) (by kernel_rfl) (ok42 N _ _ hy) (by kernel_rfl) <| nN K (tn 2) ?_
     refine cnd h ?_ ?_<;>intro h
     ·refine VW.skip <| VW.block <| VW.region <| nG K 3 (tn 3) ?_
      obtain⟨y70,hy,h⟩:=aS h
      refine clc false [.t (.int .i64)] [] (some 46) K (ok78 N _ hy) ?_
      obtain⟨g71,h⟩:=gS h
      obtain⟨g72,h⟩:=gS h
      refine nN K (an g71 (pu 2 (an g72 (tn 1)))) ?_
      exact aro [.ren [0, 3, 65536] [0, 1]] ⟨y69.1.1, y69.1.2.1, y69.1.2.2, (x61 ++ ([(((⟨#[122]⟩ : ByteArray) ++ y70), (1 : Int))])), rfl, h⟩
     refine VW.exit ?_
     exact arv [.ren [3, 65536] [1, 0]] ⟨x61, y69.1.1, y69.1.2.1, y69.1.2.2, rfl, h⟩
   refine VW.skip ?_
   exact arv [.ren [3, 65536] [1, 0]] ⟨y1, y42.1.1, y42.1.2.1, y42.1.2.2, rfl, h⟩
  refine VW.skip ?_
  exact arv [.ren [3, 65536] [1, 0]] ⟨y1, y40.1.1, y40.1.2.1, y40.1.2.2, rfl, h⟩
 rintro s ⟨x35, x36, x37, x38, rfl, h⟩
 unfold F35_j0 at h
 refine nR K (tn 2) ?_
 replace h := Option.some.inj h
 subst h
 refine VW.ghl [.ren [2, 65536] [1, 0]] (VW.ret ?_)
 exact ⟨[some 1], by kernel_rfl, by kernel_rfl, by kernel_rfl⟩
def F44_j0 (N : Nat) (x22 : (List Z73)) (x23 : (List Int)) (x24 : Int) (x25 : Int) : Option (Z102 × (List Z73)) :=
  some ((x23, (x24, x25)), x22)
def F44 (N : Nat) (a0 : Z102) (a1 : (List Z73)) : Option (Z102 × (List Z73)) :=
  andO (F67 N a0 (8 : Int)) fun y2 => cond (!y2.2) (some (y2.1, a1)) (cond ((a1.length : Int) == (0 : Int)) (some (y2.1, a1)) (andO (F42 N y2.1 (a1.length : Int)) fun y3 => andO (F42 N y3.1 (7 : Int)) fun y27 => cond (y27.2 == (0 : Int)) (andO (F42 N y27.1 (10 : Int)) fun y28 => gd (InR y3.2 a1.length) (gd (y3.2.toNat < a1.length) (F44_j0 N (a1.set y3.2.toNat ((IntKind.i64.wrap (y28.2 - (1 : Int))), ((a1.getD y3.2.toNat (Ty.dflt Y73)).2.1, ((a1.getD y3.2.toNat (Ty.dflt Y73)).2.2.1, ((a1.getD y3.2.toNat (Ty.dflt Y73)).2.2.2.1, ((a1.getD y3.2.toNat (Ty.dflt Y73)).2.2.2.2.1, ((a1.getD y3.2.toNat (Ty.dflt Y73)).2.2.2.2.2.1, (a1.getD y3.2.toNat (Ty.dflt Y73)).2.2.2.2.2.2))))))) y28.1.1 y28.1.2.1 y28.1.2.2))) (cond (y27.2 == (1 : Int)) (andO (F76 N y27.1 ([(-1 : Int), (63 : Int), (64 : Int), (2 : Int)])) fun y31 => gd (InR y3.2 a1.length) (gd (y3.2.toNat < a1.length) (F44_j0 N (a1.set y3.2.toNat ((a1.getD y3.2.toNat (Ty.dflt Y73)).1, ((a1.getD y3.2.toNat (Ty.dflt Y73)).2.1, (y31.2, ((a1.getD y3.2.toNat (Ty.dflt Y73)).2.2.2.1, ((a1.getD y3.2.toNat (Ty.dflt Y73)).2.2.2.2.1, ((a1.getD y3.2.toNat (Ty.dflt Y73)).2.2.2.2.2.1, (a1.getD y3.2.toNat (Ty.dflt Y73)).2.2.2.2.2.2))))))) y31.1.1 y31.1.2.1 y31.1.2.2))) (cond (y27.2 == (2 : Int)) (andO (F76 N y27.1 ([(-1 : Int), (1000000 : Int), (1000001 : Int)])) fun y34 => gd (InR y3.2 a1.length) (gd (y3.2.toNat < a1.length) (F44_j0 N (a1.set y3.2.toNat ((a1.getD y3.2.toNat (Ty.dflt Y73)).1, ((a1.getD y3.2.toNat (Ty.dflt Y73)).2.1, ((a1.getD y3.2.toNat (Ty.dflt Y73)).2.2.1, ((a1.getD y3.2.toNat (Ty.dflt Y73)).2.2.2.1, (y34.2, ((a1.getD y3.2.toNat (Ty.dflt Y73)).2.2.2.2.2.1, (a1.getD y3.2.toNat (Ty.dflt Y73)).2.2.2.2.2.2))))))) y34.1.1 y34.1.2.1 y34.1.2.2))) (cond (y27.2 == (3 : Int)) (gd (InR y3.2 a1.length) (gd (y3.2.toNat < a1.length) (F44_j0 N (a1.set y3.2.toNat ((a1.getD y3.2.toNat (Ty.dflt Y73)).1, ((a1.getD y3.2.toNat (Ty.dflt Y73)).2.1, ((a1.getD y3.2.toNat (Ty.dflt Y73)).2.2.1, ((a1.getD y3.2.toNat (Ty.dflt Y73)).2.2.2.1, ((a1.getD y3.2.toNat (Ty.dflt Y73)).2.2.2.2.1, (true, (a1.getD y3.2.toNat (Ty.dflt Y73)).2.2.2.2.2.2))))))) y27.1.1 y27.1.2.1 y27.1.2.2))) (cond (y27.2 == (4 : Int)) (gd (InR y3.2 a1.length) (gd (y3.2.toNat < a1.length) (gd (a1.length + ([(a1.getD y3.2.toNat (Ty.dflt Y73))]).length ≤ lim Y73) (F44_j0 N (a1 ++ ([(a1.getD y3.2.toNat (Ty.dflt Y73))])) y27.1.1 y27.1.2.1 y27.1.2.2)))) (cond (y27.2 == (5 : Int)) (gd (0 ≤ y3.2 ∧ y3.2 ≤ (a1.length : Int)) (F44_j0 N (a1.take y3.2.toNat) y27.1.1 y27.1.2.1 y27.1.2.2)) (cond (y27.2 == (6 : Int)) (gd (InR y3.2 a1.length) (gd (0 ≤ y3.2 ∧ y3.2.toNat < a1.length ∧ ((a1.getD y3.2.toNat (Ty.dflt Y73)).2.2.2.2.2.2).length + 1 ≤ lim (.int .i64)) (F44_j0 N (a1.set y3.2.toNat ((a1.getD y3.2.toNat (Ty.dflt Y73)).1, ((a1.getD y3.2.toNat (Ty.dflt Y73)).2.1, ((a1.getD y3.2.toNat (Ty.dflt Y73)).2.2.1, ((a1.getD y3.2.toNat (Ty.dflt Y73)).2.2.2.1, ((a1.getD y3.2.toNat (Ty.dflt Y73)).2.2.2.2.1, ((a1.getD y3.2.toNat (Ty.dflt Y73)).2.2.2.2.2.1, (((a1.getD y3.2.toNat (Ty.dflt Y73)).2.2.2.2.2.2) ++ [(0 : Int)])))))))) y27.1.1 y27.1.2.1 y27.1.2.2))) (F44_j0 N a1 y27.1.1 y27.1.2.1 y27.1.2.2)))))))))
theorem ok44 N a0 a1 {r} (h : F44 N a0 a1 = some r) : ConM prog 44 [bx (lv Y102 a0) 103, ar 0 Y73 a1 .dp] [.lf (.ptr 0 0 0 0), hh 1] [.lf (.own Y73 r.2 .tp)] [bx (lv Y102 r.1) 103, none] := by
 refine ⟨enters_of func44 rfl (by decide), HM.intro [.lf (.own Y73 .tp)] K func44 rfl (Nat.le_of_ble_eq_true rfl) (Nat.le_of_ble_eq_true rfl) fun w0 E0 ht => ?_⟩
 unfold F44 at h
 show VW _ _ _ _ _ (retM _ _ _ _ _) _
 refine nR K (tn 1) <| sq <| sq <| VW.region <| nG K 1 (tn 1) ?_
 obtain⟨y2,hy,h⟩:=aS h
 refine VO.callM [0] [.r, .t (.int .i64)] (d := some 7) (by kernel_rfl) (by kernel_rfl) (ok67 N _ _ hy) (by kernel_rfl) <| nG K 2 (tn 2) ?_
 refine spC 9 h ?_ ?_<;>intro h
 ·refine nN K (tn 4) ?_
  refine VW.cond (b := true) (by kernel_rfl) (fun _ => ?_) (fun h' => nomatch h')
  refine nR K (tn 2) ?_
  replace h := Option.some.inj h
  subst h
  refine VW.ghl [.wk 1, .ren [4, 65536] [0, 100001, 1]] (VW.ret ?_)
  exact ⟨[some 2], by kernel_rfl, by kernel_rfl, by kernel_rfl⟩
 refine nN K (tn 4) ?_
 refine cnd h ?_ ?_<;>intro h
 ·refine nR K (tn 2) ?_
  replace h := Option.some.inj h
  subst h
  refine VW.ghl [.wk 1, .ren [4, 65536] [0, 100001, 1]] (VW.ret ?_)
  exact ⟨[some 2], by kernel_rfl, by kernel_rfl, by kernel_rfl⟩
 refine VW.skip <| sq <| VW.region <| nG K 3 (tn 3) ?_
 obtain⟨y3,hy,h⟩:=aS h
 refine VO.callM [0] [.r, .t (.int .i64)] (d := some 18) (by kernel_rfl) (by kernel_rfl) (ok42 N _ _ hy) (by kernel_rfl) <| nN K (tn 1) ?_
 refine VW.join (fun s => ∃ x22 x23 x24 x25, s = ⟨[(1, hh 0), (65536, .lf (.ptr 1 0 0 0))], [ar 0 Y73 x22 .tp, bx [.v (.sl (.int .u8)) x23, zi x24, zi x25] 103]⟩ ∧ F44_j0 N x22 x23 x24 x25 = some r) ?_ ?_
 ·refine sq <| VW.region <| nG K 1 (tn 1) ?_
  obtain⟨y27,hy,h⟩:=aS h
  refine VO.callM [0] [.r, .t (.int .i64)] (d := some 20) (by kernel_rfl) (by kernel_rfl) (ok42 N _ _ hy) (by kernel_rfl) <| nN K (tn 0) <| VW.block <| nR K (tn 2) ?_
  refine cnd h ?_ ?_<;>intro h
  ·refine VW.region <| nG K 3 (tn 3) ?_
   obtain⟨y28,hy,h⟩:=aS h
   refine VO.callM [0] [.r, .t (.int .i64)] (d := some 26) (by kernel_rfl) (by kernel_rfl) (ok42 N _ _ hy) (by kernel_rfl) ?_
   obtain⟨g29,h⟩:=gS h
   obtain⟨g30,h⟩:=gS h
   refine nN K (pu 1 (an g29 (pu 1 (an g30 (tn 0))))) ?_
   exact arv [.wk 1, .ren [1, 65536] [1, 0]] ⟨(a1.set y3.2.toNat ((wr (y28.2 - (1 : Int))), ((a1.getD y3.2.toNat D73).2.1, ((a1.getD y3.2.toNat D73).2.2.1, ((a1.getD y3.2.toNat D73).2.2.2.1, ((a1.getD y3.2.toNat D73).2.2.2.2.1, ((a1.getD y3.2.toNat D73).2.2.2.2.2.1, (a1.getD y3.2.toNat D73).2.2.2.2.2.2))))))), y28.1.1, y28.1.2.1, y28.1.2.2, rfl, h⟩
  refine nR K (tn 2) ?_
  refine cnd h ?_ ?_<;>intro h
  ·refine VW.region <| nG K 4 (tn 4) ?_
   obtain⟨y31,hy,h⟩:=aS h
   refine VO.ghl [.frz 2] <| VO.callM [0] [.r, .t (.sl (.int .i64))] (d := some 36) (by kernel_rfl) (by kernel_rfl) (ok76 N _ _ hy) (by kernel_rfl) ?_
   obtain⟨g32,h⟩:=gS h
   obtain⟨g33,h⟩:=gS h
   refine nN K (an g32 (pu 1 (an g33 (tn 0)))) ?_
   exact arv [.wk 1, .ren [1, 65536] [1, 0]] ⟨(a1.set y3.2.toNat ((a1.getD y3.2.toNat D73).1, ((a1.getD y3.2.toNat D73).2.1, (y31.2, ((a1.getD y3.2.toNat D73).2.2.2.1, ((a1.getD y3.2.toNat D73).2.2.2.2.1, ((a1.getD y3.2.toNat D73).2.2.2.2.2.1, (a1.getD y3.2.toNat D73).2.2.2.2.2.2))))))), y31.1.1, y31.1.2.1, y31.1.2.2, rfl, h⟩
  refine nR K (tn 2) ?_
  refine cnd h ?_ ?_<;>intro h
  ·refine VW.region <| nG K 4 (tn 4) ?_
   obtain⟨y34,hy,h⟩:=aS h
   refine VO.ghl [.frz 2] <| VO.callM [0] [.r, .t (.sl (.int .i64))] (d := some 45) (by kernel_rfl) (by kernel_rfl) (ok76 N _ _ hy) (by kernel_rfl) ?_
   obtain⟨g35,h⟩:=gS h
   obtain⟨g36,h⟩:=gS h
   refine nN K (an g35 (pu 1 (an g36 (tn 0)))) ?_
   exact arv [.wk 1, .ren [1, 65536] [1, 0]] ⟨(a1.set y3.2.toNat ((a1.getD y3.2.toNat D73).1, ((a1.getD y3.2.toNat D73).2.1, ((a1.getD y3.2.toNat D73).2.2.1, ((a1.getD y3.2.toNat D73).2.2.2.1, (y34.2, ((a1.getD y3.2.toNat D73).2.2.2.2.2.1, (a1.getD y3.2.toNat D73).2.2.2.2.2.2))))))), y34.1.1, y34.1.2.1, y34.1.2.2, rfl, h⟩
  refine nR K (tn 2) ?_
  refine cnd h ?_ ?_<;>intro h
  ·obtain⟨g37,h⟩:=gS h
   obtain⟨g38,h⟩:=gS h
   refine nE K (pu 2 (an g37 (pu 1 (an g38 (tn 0))))) ?_
   exact arv [.wk 1, .ren [1, 65536] [1, 0]] ⟨(a1.set y3.2.toNat ((a1.getD y3.2.toNat D73).1, ((a1.getD y3.2.toNat D73).2.1, ((a1.getD y3.2.toNat D73).2.2.1, ((a1.getD y3.2.toNat D73).2.2.2.1, ((a1.getD y3.2.toNat D73).2.2.2.2.1, (true, (a1.getD y3.2.toNat D73).2.2.2.2.2.2))))))), y27.1.1, y27.1.2.1, y27.1.2.2, rfl, h⟩
  refine nR K (tn 2) ?_
  refine cnd h ?_ ?_<;>intro h
  ·refine VW.region ?_
   obtain⟨g39,h⟩:=gS h
   refine sG K 4 [56, 59, 65536] [1, 0] ⟨[(56, hh 0), (59, .lf (.ptr 0 0 y3.2.toNat 0)), (65536, .lf (.ptr 1 0 0 0))], [ar 0 Y73 a1 .dp, bx (lv Y102 y27.1) 103]⟩ (pu 3 (an g39 (tn 0))) <| VO.ghl [.wk 0] ?_
   obtain⟨g40,h⟩:=gS h
   obtain⟨g41,h⟩:=gS h
   refine nN K (an g40 (pu 1 (an g41 (tn 1)))) ?_
   exact arv [.ren [1, 65536] [0, 1]] ⟨(a1 ++ ([(a1.getD y3.2.toNat D73)])), y27.1.1, y27.1.2.1, y27.1.2.2, rfl, h⟩
  refine sR K [1, 5, 20, 63, 65536] [1, 0] ⟨[(1, hh 0), (5, I y3.2), (20, I y27.2), (63, B (y27.2 == (5 : Int))), (65536, .lf (.ptr 1 0 0 0))], [ar 0 Y73 a1 .dp, bx (lv Y102 y27.1) 103]⟩ (tn 2) ?_
  refine cnd h ?_ ?_<;>intro h
  ·obtain⟨g42,h⟩:=gS h
   refine nE K (pu 2 (an g42 (tn 1))) ?_
   exact arv [.shr 1, .wk 0, .ren [1, 65536] [0, 1]] ⟨(a1.take y3.2.toNat), y27.1.1, y27.1.2.1, y27.1.2.2, rfl, h⟩
  refine nR K (tn 2) ?_
  refine cnd h ?_ ?_<;>intro h
  ·refine VW.region ?_
   obtain⟨g43,h⟩:=gS h
   refine nG K 6 (pu 4 (an g43 (tn 1))) ?_
   obtain⟨g44,h⟩:=gS h
   refine VO.colApp (d1 := 76) (d2 := 77) (d3 := 78) (d4 := 79) (d5 := 80) (id := 0) (cur := 0) (i := y3.2.toNat) (j := 6) (z := y3.2) (c := (0 : Int)) (kk := .i64) (k := .i64) (e := Y73) (xs := a1) (ys := ((a1.getD y3.2.toNat D73).2.2.2.2.2.2)) (x' := ((a1.getD y3.2.toNat D73).1, ((a1.getD y3.2.toNat D73).2.1, ((a1.getD y3.2.toNat D73).2.2.1, ((a1.getD y3.2.toNat D73).2.2.2.1, ((a1.getD y3.2.toNat D73).2.2.2.2.1, ((a1.getD y3.2.toNat D73).2.2.2.2.2.1, (((a1.getD y3.2.toNat D73).2.2.2.2.2.2) ++ [(0 : Int)])))))))) K ⟨rfl, rfl, rfl⟩ ⟨rfl, rfl, rfl⟩ rfl ⟨rfl, rfl, rfl⟩ ⟨rfl, rfl, rfl⟩ ⟨rfl, rfl, rfl⟩ ⟨rfl, rfl, rfl⟩ ⟨rfl, rfl, rfl⟩ (by kernel_rfl) rfl (by kernel_rfl) (by kernel_rfl) (by kernel_rfl) (by kernel_rfl) (by kernel_rfl) (by kernel_rfl) (by kernel_rfl) (by kernel_rfl) ⟨g44.1, rfl⟩ g44.2 ?_
   refine sN K [1, 65536] [0, 1] ⟨[(1, hh 0), (65536, .lf (.ptr 1 0 0 0))], [ar 0 Y73 (a1.set y3.2.toNat ((a1.getD y3.2.toNat D73).1, ((a1.getD y3.2.toNat D73).2.1, ((a1.getD y3.2.toNat D73).2.2.1, ((a1.getD y3.2.toNat D73).2.2.2.1, ((a1.getD y3.2.toNat D73).2.2.2.2.1, ((a1.getD y3.2.toNat D73).2.2.2.2.2.1, (((a1.getD y3.2.toNat D73).2.2.2.2.2.2) ++ [(0 : Int)])))))))) .dp, bx (lv Y102 y27.1) 103]⟩ (tn 0) ?_
   exact arv [.wk 0, .ren [1, 65536] [0, 1]] ⟨(a1.set y3.2.toNat ((a1.getD y3.2.toNat D73).1, ((a1.getD y3.2.toNat D73).2.1, ((a1.getD y3.2.toNat D73).2.2.1, ((a1.getD y3.2.toNat D73).2.2.2.1, ((a1.getD y3.2.toNat D73).2.2.2.2.1, ((a1.getD y3.2.toNat D73).2.2.2.2.2.1, (((a1.getD y3.2.toNat D73).2.2.2.2.2.2) ++ [(0 : Int)])))))))), y27.1.1, y27.1.2.1, y27.1.2.2, rfl, h⟩
  refine VW.skip ?_
  exact arv [.wk 0, .ren [1, 65536] [0, 1]] ⟨a1, y27.1.1, y27.1.2.1, y27.1.2.2, rfl, h⟩
 rintro s ⟨x22, x23, x24, x25, rfl, h⟩
 unfold F44_j0 at h
 refine nR K (tn 2) ?_
 replace h := Option.some.inj h
 subst h
 refine VW.ghl [.ren [4, 65536] [1, 100001, 0]] (VW.ret ?_)
 exact ⟨[some 2], by kernel_rfl, by kernel_rfl, by kernel_rfl⟩
def F110_j0 (N : Nat) (x16 : (List Int)) : Option ((List Int)) :=
  some x16
def F110_l0_b (N : Nat) (a0 : (List Int)) (nx28 : (List Int) → Int → Option ((List Int))) (x22 : (List Int)) (x23 : Int) : Option ((List Int)) :=
  cond (decide (x23 < (a0.length : Int))) (gd (InR x23 a0.length) (gd (x22.length + ([(a0.getD x23.toNat (Ty.dflt (.int .i64)))]).length ≤ lim (.int .i64)) (nx28 (x22 ++ ([(a0.getD x23.toNat (Ty.dflt (.int .i64)))])) (IntKind.i64.wrap (x23 + (1 : Int)))))) (F110_j0 N x22)
def F110_l0 (N : Nat) (a0 : (List Int)) := loopF (F110_l0_b N a0) (fun _ _ => none)
theorem F110_l0_s N a0 {k} (hk : 0 < k) x22 x23 : F110_l0 N a0 k x22 x23 = F110_l0_b N a0 (F110_l0 N a0 (k - 1)) x22 x23 := by cases k;cases hk;rfl
def F110 (N : Nat) (a0 : (List Int)) : Option ((List Int)) :=
  F110_l0 N a0 N ([]) (0 : Int)
theorem ok110 N a0 {r} (h : F110 N a0 = some r) : Con prog 110 [Vv (.sl (.int .i64)) a0] [.lf (.own (.int .i64) r .dp)] := by
 refine ctr [.lf (.own (.int .i64) .dp)] K func110 rfl fun w0 E0 ht => ?_
 unfold F110 at h
 show VW _ _ _ _ _ (retQ _ _ _ _) _
 refine nR K (tn 1) <| nR K (tn 2) ?_
 refine VW.join (fun s => ∃ x16, s = ⟨[(3, hh 0)], [ar 0 (.int .i64) x16 .dp]⟩ ∧ F110_j0 N x16 = some r) ?_ ?_
 ·refine nR K (tn 1) <| VW.block <| lop (fun k s => ∃ x22 x23, s = ⟨[(0, Vv (.sl (.int .i64)) a0), (3, hh 0), (4, I x23)], [ar 0 (.int .i64) x22 .dp]⟩ ∧ F110_l0 N a0 k x22 x23 = some r) N [.nilS 3 (.int .i64) .dp, .ren [0, 3, 4] [0]] ⟨[], (0 : Int), rfl, h⟩ ?_
  rintro k28 s ⟨x22, x23, rfl, h⟩
  cases k28 with
  | zero => cases show none = some r from h
  | succ k28 =>
   replace h : F110_l0_b N a0 (F110_l0 N a0 k28) x22 x23 = some r := h
   unfold F110_l0_b at h
   refine sq <| nR K (tn 4) ?_
   refine cnd h ?_ ?_<;>intro h
   ·refine VW.skip <| sq <| VW.block ?_
    obtain⟨g31,h⟩:=gS h
    obtain⟨g32,h⟩:=gS h
    refine nE K (pu 3 (an g31 (pu 2 (an g32 (tn 1))))) <| nE K (tn 3) ?_
    exact aro [.ren [0, 3, 4] [0]] ⟨(x22 ++ ([(a0.getD x23.toNat (Ty.dflt (.int .i64)))])), (wr (x23 + (1 : Int))), rfl, h⟩
   refine VW.exit ?_
   exact arv [.ren [3] [0]] ⟨x22, rfl, h⟩
 rintro s ⟨x16, rfl, h⟩
 unfold F110_j0 at h
 refine nR K (tn 2) ?_
 cases h; exact VW.ret (rt [some 0])
def F69_j0 (N : Nat) (x100 : (List Z73)) : Option ((List Z73)) :=
  some x100
def F69_j1 (N : Nat) (nx168 : (List Z73) → Int → Option ((List Z73))) (x134 : (List Z73)) (x135 : Int) (x189 : Int) (x190 : ByteArray) (x191 : Int) (x192 : Int) (x193 : Int) (x194 : Bool) (x195 : (List Int)) : Option ((List Z73)) :=
  gd (x134.length + ([(x189, (x190, (x191, (x192, (x193, (x194, x195))))))]).length ≤ lim Y73) (nx168 (x134 ++ ([(x189, (x190, (x191, (x192, (x193, (x194, x195))))))])) (IntKind.i64.wrap (x135 + (1 : Int))))
def F69_l0_b (N : Nat) (a0 : (List Z73)) (nx168 : (List Z73) → Int → Option ((List Z73))) (x134 : (List Z73)) (x135 : Int) : Option ((List Z73)) :=
  cond (decide (x135 < (a0.length : Int))) (gd (InR x135 a0.length) (gd (InR x135 a0.length) (cond (decide ((((a0.getD x135.toNat (Ty.dflt Y73)).2.2.2.2.2.2).length : Int) > (0 : Int))) (gd (InR x135 a0.length) (andO (F110 N ((a0.getD x135.toNat (Ty.dflt Y73)).2.2.2.2.2.2)) fun y200 => F69_j1 N nx168 x134 x135 ((a0.getD x135.toNat (Ty.dflt Y73)).1) ((a0.getD x135.toNat (Ty.dflt Y73)).2.1) ((a0.getD x135.toNat (Ty.dflt Y73)).2.2.1) ((a0.getD x135.toNat (Ty.dflt Y73)).2.2.2.1) ((a0.getD x135.toNat (Ty.dflt Y73)).2.2.2.2.1) ((a0.getD x135.toNat (Ty.dflt Y73)).2.2.2.2.2.1) y200)) (F69_j1 N nx168 x134 x135 ((a0.getD x135.toNat (Ty.dflt Y73)).1) ((a0.getD x135.toNat (Ty.dflt Y73)).2.1) ((a0.getD x135.toNat (Ty.dflt Y73)).2.2.1) ((a0.getD x135.toNat (Ty.dflt Y73)).2.2.2.1) ((a0.getD x135.toNat (Ty.dflt Y73)).2.2.2.2.1) ((a0.getD x135.toNat (Ty.dflt Y73)).2.2.2.2.2.1) ([]))))) (F69_j0 N x134)
def F69_l0 (N : Nat) (a0 : (List Z73)) := loopF (F69_l0_b N a0) (fun _ _ => none)
theorem F69_l0_s N a0 {k} (hk : 0 < k) x134 x135 : F69_l0 N a0 k x134 x135 = F69_l0_b N a0 (F69_l0 N a0 (k - 1)) x134 x135 := by cases k;cases hk;rfl
def F69 (N : Nat) (a0 : (List Z73)) : Option ((List Z73)) :=
  F69_l0 N a0 N ([]) (0 : Int)
theorem ok69 N a0 {r} (h : F69 N a0 = some r) : Con prog 69 [Vv (.sl Y73) a0] [.lf (.own Y73 r .dp)] := by
 refine ctr [.lf (.own Y73 .dp)] K func69 rfl fun w0 E0 ht => ?_
 unfold F69 at h
 show VW _ _ _ _ _ (retQ _ _ _ _) _
 refine nR K (tn 1) <| nR K (tn 2) ?_
 refine VW.join (fun s => ∃ x100, s = ⟨[(3, hh 0)], [ar 0 Y73 x100 .dp]⟩ ∧ F69_j0 N x100 = some r) ?_ ?_
 ·refine nR K (tn 1) <| VW.block <| lop (fun k s => ∃ x134 x135, s = ⟨[(0, Vv (.sl Y73) a0), (3, hh 0), (4, I x135)], [ar 0 Y73 x134 .dp]⟩ ∧ F69_l0 N a0 k x134 x135 = some r) N [.nilS 3 Y73 .dp, .ren [0, 3, 4] [0]] ⟨[], (0 : Int), rfl, h⟩ ?_
  rintro k168 s ⟨x134, x135, rfl, h⟩
  cases k168 with
  | zero => cases show none = some r from h
  | succ k168 =>
   replace h : F69_l0_b N a0 (F69_l0 N a0 k168) x134 x135 = some r := h
   unfold F69_l0_b at h
   refine sq <| nR K (tn 4) ?_
   refine cnd h ?_ ?_<;>intro h
   ·refine VW.skip <| sq <| VW.block ?_
    obtain⟨g185,h⟩:=gS h
    refine nR K (pu 2 (an g185 (tn 3))) <| nR K (tn 2) ?_
    refine VW.join (fun s => ∃ x189 x190 x191 x192 x193 x194 x195, s = ⟨[(0, Vv (.sl Y73) a0), (3, hh 0), (4, I x135), (5, .lf (.ptr 1 0 0 0))], [ar 0 Y73 x134 .dp, bx [zi x189, zs x190, zi x191, zi x192, zi x193, zb x194, .hd 2 0 none] 74, ar 0 (.int .i64) x195 .dp]⟩ ∧ F69_j1 N (F69_l0 N a0 k168) x134 x135 x189 x190 x191 x192 x193 x194 x195 = some r) ?_ ?_
    ·obtain⟨g198,h⟩:=gS h
     refine nR K (pu 2 (an g198 (tn 4))) ?_
     refine cnd h ?_ ?_<;>intro h
     ·refine VW.region ?_
      obtain⟨g199,h⟩:=gS h
      refine nG K 5 (pu 2 (an g199 (tn 2))) ?_
      obtain⟨y200,hy,h⟩:=aS h
      refine clc false [.t (.sl (.int .i64))] [] (some 30) K (ok110 N _ hy) <| nN K (tn 2) ?_
      exact arv [.ren [0, 3, 4, 5] [0, 1, 2]] ⟨(a0.getD x135.toNat D73).1, (a0.getD x135.toNat D73).2.1, (a0.getD x135.toNat D73).2.2.1, (a0.getD x135.toNat D73).2.2.2.1, (a0.getD x135.toNat D73).2.2.2.2.1, (a0.getD x135.toNat D73).2.2.2.2.2.1, y200, rfl, h⟩
     refine VW.skip ?_
     exact arv [.nil 1 6 (.int .i64) .dp, .ren [0, 3, 4, 5] [0, 1, 2]] ⟨(a0.getD x135.toNat D73).1, (a0.getD x135.toNat D73).2.1, (a0.getD x135.toNat D73).2.2.1, (a0.getD x135.toNat D73).2.2.2.1, (a0.getD x135.toNat D73).2.2.2.2.1, (a0.getD x135.toNat D73).2.2.2.2.2.1, [], rfl, h⟩
    rintro s ⟨x189, x190, x191, x192, x193, x194, x195, rfl, h⟩
    unfold F69_j1 at h
    refine VW.region <| nG K 2 (tn 2) <| VO.litA (d := 34) (v := hh 3) (H' := [ar 0 Y73 x134 .dp, bx [zi x189, zs x190, zi x191, zi x192, zi x193, zb x194, .hd 2 0 none] 74, none, ar 0 Y73 ([(x189, (x190, (x191, (x192, (x193, (x194, x195))))))]) .dp]) K (by kernel_rfl) ?_
    obtain⟨g196,h⟩:=gS h
    refine VO.appM (d := 35) (φ := x134.length + ([(x189, (x190, (x191, (x192, (x193, (x194, x195))))))]).length ≤ lim Y73) (v := .lf (.hd 0 1 none)) (H' := [ar 1 Y73 (x134 ++ ([(x189, (x190, (x191, (x192, (x193, (x194, x195))))))])) .dp, bx [zi x189, zs x190, zi x191, zi x192, zi x193, zb x194, .hd 2 0 none] 74, none, none]) K (by kernel_rfl) g196 <| nN K (tn 1) <| nE K (tn 3) ?_
    exact aro [.ren [0, 3, 4] [0]] ⟨(x134 ++ ([(x189, (x190, (x191, (x192, (x193, (x194, x195))))))])), (wr (x135 + (1 : Int))), rfl, h⟩
   refine VW.exit ?_
   exact arv [.ren [3] [0]] ⟨x134, rfl, h⟩
 rintro s ⟨x100, rfl, h⟩
 unfold F69_j0 at h
 refine nR K (tn 2) ?_
 cases h; exact VW.ret (rt [some 0])
def F92_j0 (N : Nat) (x22 : (List Z73)) : Option ((List Z73)) :=
  some x22
def F92_l0_b (N : Nat) (a0 : (List (List Z73))) (nx38 : (List Z73) → Int → Option ((List Z73))) (x30 : (List Z73)) (x31 : Int) : Option ((List Z73)) :=
  cond (decide (x31 < (a0.length : Int))) (gd (InR x31 a0.length) (andO (F69 N (a0.getD x31.toNat (Ty.dflt (.sl Y73)))) fun y43 => gd (x30.length + y43.length ≤ lim Y73) (nx38 (x30 ++ y43) (IntKind.i64.wrap (x31 + (1 : Int)))))) (F92_j0 N x30)
def F92_l0 (N : Nat) (a0 : (List (List Z73))) := loopF (F92_l0_b N a0) (fun _ _ => none)
theorem F92_l0_s N a0 {k} (hk : 0 < k) x30 x31 : F92_l0 N a0 k x30 x31 = F92_l0_b N a0 (F92_l0 N a0 (k - 1)) x30 x31 := by cases k;cases hk;rfl
def F92 (N : Nat) (a0 : (List (List Z73))) : Option ((List Z73)) :=
  F92_l0 N a0 N ([]) (0 : Int)
theorem ok92 N a0 {r} (h : F92 N a0 = some r) : Con prog 92 [Vv (.sl (.sl Y73)) a0] [.lf (.own Y73 r .dp)] := by
 refine ctr [.lf (.own Y73 .dp)] K func92 rfl fun w0 E0 ht => ?_
 unfold F92 at h
 show VW _ _ _ _ _ (retQ _ _ _ _) _
 refine nR K (tn 1) <| nR K (tn 2) ?_
 refine VW.join (fun s => ∃ x22, s = ⟨[(3, hh 0)], [ar 0 Y73 x22 .dp]⟩ ∧ F92_j0 N x22 = some r) ?_ ?_
 ·refine nR K (tn 1) <| VW.block <| lop (fun k s => ∃ x30 x31, s = ⟨[(0, Vv (.sl (.sl Y73)) a0), (3, hh 0), (4, I x31)], [ar 0 Y73 x30 .dp]⟩ ∧ F92_l0 N a0 k x30 x31 = some r) N [.nilS 3 Y73 .dp, .ren [0, 3, 4] [0]] ⟨[], (0 : Int), rfl, h⟩ ?_
  rintro k38 s ⟨x30, x31, rfl, h⟩
  cases k38 with
  | zero => cases show none = some r from h
  | succ k38 =>
   replace h : F92_l0_b N a0 (F92_l0 N a0 k38) x30 x31 = some r := h
   unfold F92_l0_b at h
   refine sq <| nR K (tn 4) ?_
   refine cnd h ?_ ?_<;>intro h
   ·refine VW.skip <| sq <| VW.block <| VW.region ?_
    obtain⟨g42,h⟩:=gS h
    refine nG K 5 (pu 3 (an g42 (tn 1))) ?_
    obtain⟨y43,hy,h⟩:=aS h
    refine clc false [.t (.sl Y73)] [] (some 17) K (ok69 N _ hy) ?_
    obtain⟨g44,h⟩:=gS h
    refine VO.appY (d := 18) (φ := x30.length + y43.length ≤ lim Y73) (v := .lf (.hd 0 1 none)) (H' := [ar 1 Y73 (x30 ++ y43) .dp, none]) K (by kernel_rfl) g44 <| nN K (tn 1) <| nE K (tn 3) ?_
    exact aro [.ren [0, 3, 4] [0]] ⟨(x30 ++ y43), (wr (x31 + (1 : Int))), rfl, h⟩
   refine VW.exit ?_
   exact arv [.ren [3] [0]] ⟨x30, rfl, h⟩
 rintro s ⟨x22, rfl, h⟩
 unfold F92_j0 at h
 refine nR K (tn 2) ?_
 cases h; exact VW.ret (rt [some 0])
def F43_j0 (N : Nat) (x44 : (List Z73)) (x45 : Int) (x46 : (List Z73)) (x47 : (List Int)) (x48 : Int) (x49 : Int) : Option (Z102 × (List Z73) × Int) :=
  andO (F92 N ([([((4 : Int), (ByteArray.empty, ((0 : Int), ((0 : Int), ((0 : Int), (false, []))))))] : List Z73), x44, x46])) fun y50 => some ((x47, (x48, x49)), y50, x45)
def F43_j1 (N : Nat) (x5 : Int) (x120 : (List Z73)) (x121 : Int) (x122 : Int) (x123 : Int) (x124 : Int) (x125 : (List Int)) (x126 : (List Int)) (x127 : Int) (x128 : Int) : Option (Z102 × (List Z73) × Int) :=
  andO (F92 N ([[(x5, (ByteArray.empty, (x122, (x123, (x124, (false, x125))))))], x120])) fun y129 => some ((x126, (x127, x128)), y129, x121)
def F43_j2 (N : Nat) (x5 : Int) (x161 : (List Z73)) (x162 : (List Int)) (x163 : (List Int)) (x164 : Int) (x165 : Int) : Option (Z102 × (List Z73) × Int) :=
  F43_j1 N x5 x161 (x162.length : Int) (0 : Int) (0 : Int) (0 : Int) x162 x163 x164 x165
def F43_l0_b (N : Nat) (x5 : Int) (nx189 : (List Int) → Int → Int → (List Z73) → Int → (List Int) → Int → Option (Z102 × (List Z73) × Int)) (x178 : (List Int)) (x179 : Int) (x180 : Int) (x181 : (List Z73)) (x182 : Int) (x183 : (List Int)) (x184 : Int) : Option (Z102 × (List Z73) × Int) :=
  cond (decide (x184 > (0 : Int))) (andO (F42 N (x178, (x179, x180)) x182) fun y192 => gd (x183.length + ([y192.2]).length ≤ lim (.int .i64)) (nx189 y192.1.1 y192.1.2.1 y192.1.2.2 x181 x182 (x183 ++ ([y192.2])) (IntKind.i64.wrap (x184 - (1 : Int))))) (F43_j2 N x5 x181 x183 x178 x179 x180)
def F43_l0 (N : Nat) (x5 : Int) := loopF (F43_l0_b N x5) (fun _ _ _ _ _ _ _ => none)
theorem F43_l0_s N x5 {k} (hk : 0 < k) x178 x179 x180 x181 x182 x183 x184 : F43_l0 N x5 k x178 x179 x180 x181 x182 x183 x184 = F43_l0_b N x5 (F43_l0 N x5 (k - 1)) x178 x179 x180 x181 x182 x183 x184 := by cases k;cases hk;rfl
def F43_j3 (N : Nat) (a1 : Int) (self : Z102 → Int → Option (Z102 × (List Z73) × Int)) (x2 : (List Int)) (x3 : Int) (x4 : Int) (x5 : Int) : Option (Z102 × (List Z73) × Int) :=
  cond (x5 == (0 : Int)) (andO (F42 N (x2, (x3, x4)) (3 : Int)) fun y30 => gd (InR y30.2 ([(⟨#[116, 49]⟩ : ByteArray), (⟨#[116, 50]⟩ : ByteArray), (⟨#[116, 51]⟩ : ByteArray)]).length) (gd (y30.2.toNat < ([(⟨#[116, 49]⟩ : ByteArray), (⟨#[116, 50]⟩ : ByteArray), (⟨#[116, 51]⟩ : ByteArray)]).length) (gd (InR y30.2 ([(2 : Int), (3 : Int), (1 : Int)]).length) (gd (y30.2.toNat < ([(2 : Int), (3 : Int), (1 : Int)]).length) (some (y30.1, ([((0 : Int), ((([(⟨#[116, 49]⟩ : ByteArray), (⟨#[116, 50]⟩ : ByteArray), (⟨#[116, 51]⟩ : ByteArray)]).getD y30.2.toNat (Ty.dflt .str)), ((0 : Int), ((0 : Int), ((0 : Int), (false, []))))))] : List Z73), (([(2 : Int), (3 : Int), (1 : Int)]).getD y30.2.toNat (Ty.dflt (.int .i64))))))))) (cond (x5 == (3 : Int)) (andO (self (x2, (x3, x4)) (IntKind.i64.wrap (a1 - (1 : Int)))) fun y35 => andO (self y35.1 (IntKind.i64.wrap (a1 - (2 : Int)))) fun y36 => andO (F42 N y36.1 y35.2.2) fun y37 => andO (F42 N y37.1 y36.2.2) fun y38 => andO (F92 N ([([((3 : Int), (ByteArray.empty, (y37.2, ((0 : Int), (y38.2, (false, []))))))] : List Z73), y35.2.1, y36.2.1])) fun y39 => some (y38.1, y39, (IntKind.i64.wrap (y35.2.2 + y36.2.2)))) (cond (x5 == (4 : Int)) (andO (self (x2, (x3, x4)) (IntKind.i64.wrap (a1 - (1 : Int)))) fun y40 => andO (self y40.1 (IntKind.i64.wrap (a1 - (2 : Int)))) fun y41 => cond (y41.2.2 != y40.2.2) (andO (F92 N ([[((2 : Int), (ByteArray.empty, ((0 : Int), ((0 : Int), ((0 : Int), (false, [(0 : Int)]))))))], y40.2.1])) fun y52 => andO (F92 N ([[((2 : Int), (ByteArray.empty, ((0 : Int), ((0 : Int), ((0 : Int), (false, [(0 : Int)]))))))], y41.2.1])) fun y53 => F43_j0 N y52 (1 : Int) y53 y41.1.1 y41.1.2.1 y41.1.2.2) (F43_j0 N y40.2.1 y40.2.2 y41.2.1 y41.1.1 y41.1.2.1 y41.1.2.2)) (andO (self (x2, (x3, x4)) (IntKind.i64.wrap (a1 - (1 : Int)))) fun y54 => cond (x5 == (1 : Int)) (andO (F42 N y54.1 y54.2.2) fun y131 => andO (F42 N y131.1 (4 : Int)) fun y132 => cond (y132.2 != (3 : Int)) (andO (F42 N y132.1 (6 : Int)) fun y133 => F43_j1 N x5 y54.2.1 y54.2.2 y131.2 y132.2 (IntKind.i64.wrap (y133.2 - (1 : Int))) ([]) y133.1.1 y133.1.2.1 y133.1.2.2) (F43_j1 N x5 y54.2.1 y54.2.2 y131.2 y132.2 (0 : Int) ([]) y132.1.1 y132.1.2.1 y132.1.2.2)) (cond (x5 == (2 : Int)) (andO (F42 N y54.1 (3 : Int)) fun y167 => F43_l0 N x5 N y167.1.1 y167.1.2.1 y167.1.2.2 y54.2.1 y54.2.2 ([]) (IntKind.i64.wrap ((1 : Int) + y167.2))) (cond (x5 == (5 : Int)) (andO (F42 N y54.1 y54.2.2) fun y194 => F43_j1 N x5 y54.2.1 y54.2.2 y194.2 (0 : Int) (0 : Int) ([]) y194.1.1 y194.1.2.1 y194.1.2.2) (cond (x5 == (6 : Int)) (andO (F42 N y54.1 (6 : Int)) fun y195 => F43_j1 N x5 y54.2.1 y54.2.2 (0 : Int) (0 : Int) y195.2 ([]) y195.1.1 y195.1.2.1 y195.1.2.2) (F43_j1 N x5 y54.2.1 y54.2.2 (0 : Int) (0 : Int) (0 : Int) ([]) y54.1.1 y54.1.2.1 y54.1.2.2)))))))
def F43_b (N : Nat) (self : Z102 → Int → Option (Z102 × (List Z73) × Int)) (a0 : Z102) (a1 : Int) : Option (Z102 × (List Z73) × Int) :=
  andO (F76 N a0 ([(0 : Int), (1 : Int), (1 : Int), (1 : Int), (2 : Int), (3 : Int), (4 : Int), (5 : Int), (6 : Int), (7 : Int)])) fun y1 => cond (decide (a1 ≤ (1 : Int))) (F43_j3 N a1 self y1.1.1 y1.1.2.1 y1.1.2.2 (0 : Int)) (F43_j3 N a1 self y1.1.1 y1.1.2.1 y1.1.2.2 y1.2)
theorem ok43_b (N : Nat) (self : Z102 → Int → Option (Z102 × (List Z73) × Int)) (ih : ∀ (a0 : Z102) (a1 : Int) (r : Z102 × (List Z73) × Int), self a0 a1 = some r → ConM prog 43 [bx (lv Y102 a0) 103] [.lf (.ptr 0 0 0 0), I a1] [.lf (.own Y73 r.2.1 .dp), .lf (.v (.int .i64) r.2.2)] [bx (lv Y102 r.1) 103]) (a0 : Z102) (a1 : Int) {r : Z102 × (List Z73) × Int} (h : F43_b N self a0 a1 = some r) : ConM prog 43 [bx (lv Y102 a0) 103] [.lf (.ptr 0 0 0 0), I a1] [.lf (.own Y73 r.2.1 .dp), .lf (.v (.int .i64) r.2.2)] [bx (lv Y102 r.1) 103] := by
 refine ⟨enters_of func43 rfl (by decide), HM.intro [.lf (.own Y73 .dp), .lf (.v (.int .i64))] K func43 rfl (Nat.le_of_ble_eq_true rfl) (Nat.le_of_ble_eq_true rfl) fun w0 E0 ht => ?_⟩
 unfold F43_b at h
 show VW _ _ _ _ _ (retM _ _ _ _ _) _
 refine nR K (tn 2) <| sq <| VW.region <| nG K 2 (tn 2) ?_
 obtain⟨y1,hy,h⟩:=aS h
 refine VO.ghl [.frz 1] <| VO.callM [0] [.r, .t (.sl (.int .i64))] (d := some 25) (by kernel_rfl) (by kernel_rfl) (ok76 N _ _ hy) (by kernel_rfl) <| nN K (tn 1) ?_
 refine VW.join (fun s => ∃ x2 x3 x4 x5, s = ⟨[(0, .lf (.ptr 0 0 0 0)), (1, I a1), (6, I x5), (65536, .lf (.ptr 0 0 0 0))], [bx [.v (.sl (.int .u8)) x2, zi x3, zi x4] 103]⟩ ∧ F43_j3 N a1 self x2 x3 x4 x5 = some r) ?_ ?_
 ·refine nR K (tn 2) ?_
  refine cnd h ?_ ?_<;>intro h
  ·refine nE K (tn 1) ?_
   exact arv [.ren [0, 1, 6, 65536] [0]] ⟨y1.1.1, y1.1.2.1, y1.1.2.2, (0 : Int), rfl, h⟩
  refine VW.skip ?_
  exact arv [.ren [0, 1, 6, 65536] [0]] ⟨y1.1.1, y1.1.2.1, y1.1.2.2, y1.2, rfl, h⟩
 rintro s ⟨x2, x3, x4, x5, rfl, h⟩
 unfold F43_j3 at h
 refine sq <| nR K (tn 1) <| VW.block <| nR K (tn 2) ?_
 refine cnd h ?_ ?_<;>intro h
 ·refine sq <| VW.region <| nG K 1 (tn 1) ?_
  obtain⟨y30,hy,h⟩:=aS h
  refine VO.callM [0] [.r, .t (.int .i64)] (d := some 32) (by kernel_rfl) (by kernel_rfl) (ok42 N _ _ hy) (by kernel_rfl) <| nN K (tn 1) <| nR K (tn 2) <| nR K (tn 2) <| sq <| VW.ghl [.ren [7, 8, 9, 65536] [1, 2, 0]] ?_
  obtain⟨g31,h⟩:=gS h
  obtain⟨g32,h⟩:=gS h
  obtain⟨g33,h⟩:=gS h
  obtain⟨g34,h⟩:=gS h
  refine VW.drawn (by kernel_rfl) [some (35, hh 0), some (36, I y30.2), some (37, .lf (.ptr 0 0 y30.2.toNat 0)), some (38, S (([(⟨#[116, 49]⟩ : ByteArray), (⟨#[116, 50]⟩ : ByteArray), (⟨#[116, 51]⟩ : ByteArray)]).getD y30.2.toNat (Ty.dflt .str))), some (39, .agg [zi (0 : Int), zs (([(⟨#[116, 49]⟩ : ByteArray), (⟨#[116, 50]⟩ : ByteArray), (⟨#[116, 51]⟩ : ByteArray)]).getD y30.2.toNat (Ty.dflt .str)), zi (0 : Int), zi (0 : Int), zi (0 : Int), zb false, .nil]), some (40, hh 3), some (41, hh 1), some (42, I y30.2), some (43, .lf (.ptr 1 0 y30.2.toNat 0)), some (44, I (([(2 : Int), (3 : Int), (1 : Int)]).getD y30.2.toNat (Ty.dflt (.int .i64)))), some (4, hh 3), some (5, I (([(2 : Int), (3 : Int), (1 : Int)]).getD y30.2.toNat (Ty.dflt (.int .i64))))] [5] [[ar 0 .str ([(⟨#[116, 49]⟩ : ByteArray), (⟨#[116, 50]⟩ : ByteArray), (⟨#[116, 51]⟩ : ByteArray)]) .dp, ar 0 (.int .i64) ([(2 : Int), (3 : Int), (1 : Int)]) .dp, bx (lv Y102 y30.1) 103], [ar 0 .str ([(⟨#[116, 49]⟩ : ByteArray), (⟨#[116, 50]⟩ : ByteArray), (⟨#[116, 51]⟩ : ByteArray)]) .dp, ar 0 (.int .i64) ([(2 : Int), (3 : Int), (1 : Int)]) .dp, bx (lv Y102 y30.1) 103, ar 0 Y73 ([((0 : Int), ((([(⟨#[116, 49]⟩ : ByteArray), (⟨#[116, 50]⟩ : ByteArray), (⟨#[116, 51]⟩ : ByteArray)]).getD y30.2.toNat (Ty.dflt .str)), ((0 : Int), ((0 : Int), ((0 : Int), (false, []))))))] : List Z73) .dp]] [(0, 0), (0, 1), (1, 0), (1, 1), (2, 0), (2, 1), (3, 0), (3, 1), (4, 0), (5, 0), (6, 0), (6, 1), (7, 0), (7, 1), (8, 0), (8, 1), (9, 0), (9, 1), (10, 1), (11, 1)] [4, 5, 65536] [3, 2] (s' := ⟨[(4, hh 0), (5, I (([(2 : Int), (3 : Int), (1 : Int)]).getD y30.2.toNat (Ty.dflt (.int .i64)))), (65536, .lf (.ptr 1 0 0 0))], [ar 0 Y73 ([((0 : Int), ((([(⟨#[116, 49]⟩ : ByteArray), (⟨#[116, 50]⟩ : ByteArray), (⟨#[116, 51]⟩ : ByteArray)]).getD y30.2.toNat (Ty.dflt .str)), ((0 : Int), ((0 : Int), ((0 : Int), (false, []))))))] : List Z73) .dp, bx (lv Y102 y30.1) 103]⟩) (by kernel_rfl) (by kernel_rfl) ⟨qT K,
    qT K,
    qT K,
    qT K,
    ⟨_, rfl, Stp.ev K (m := .dp) (φ := InR y30.2 ([(⟨#[116, 49]⟩ : ByteArray), (⟨#[116, 50]⟩ : ByteArray), (⟨#[116, 51]⟩ : ByteArray)]).length) (by kernel_rfl) g31⟩,
    ⟨_, rfl, Stp.ev K (m := .dp) (φ := InR y30.2 ([(⟨#[116, 49]⟩ : ByteArray), (⟨#[116, 50]⟩ : ByteArray), (⟨#[116, 51]⟩ : ByteArray)]).length) (by kernel_rfl) g31⟩,
    ⟨_, rfl, Stp.ev K (m := .dp) (φ := y30.2.toNat < ([(⟨#[116, 49]⟩ : ByteArray), (⟨#[116, 50]⟩ : ByteArray), (⟨#[116, 51]⟩ : ByteArray)]).length) (by kernel_rfl) g32⟩,
    ⟨_, rfl, Stp.ev K (m := .dp) (φ := y30.2.toNat < ([(⟨#[116, 49]⟩ : ByteArray), (⟨#[116, 50]⟩ : ByteArray), (⟨#[116, 51]⟩ : ByteArray)]).length) (by kernel_rfl) g32⟩,
    qT K,
    ⟨_, rfl, Stp.litA K (by kernel_rfl)⟩,
    qT K,
    qT K,
    qT K,
    qT K,
    ⟨_, rfl, Stp.ev K (m := .dp) (φ := InR y30.2 ([(2 : Int), (3 : Int), (1 : Int)]).length) (by kernel_rfl) g33⟩,
    ⟨_, rfl, Stp.ev K (m := .dp) (φ := InR y30.2 ([(2 : Int), (3 : Int), (1 : Int)]).length) (by kernel_rfl) g33⟩,
    ⟨_, rfl, Stp.ev K (m := .dp) (φ := y30.2.toNat < ([(2 : Int), (3 : Int), (1 : Int)]).length) (by kernel_rfl) g34⟩,
    ⟨_, rfl, Stp.ev K (m := .dp) (φ := y30.2.toNat < ([(2 : Int), (3 : Int), (1 : Int)]).length) (by kernel_rfl) g34⟩,
    qT K,
    qT K, trivial⟩ (by kernel_rfl) ?_
  replace h := Option.some.inj h
  subst h
  refine VW.ghl [.ren [4, 5, 65536] [1, 0]] (VW.ret ?_)
  exact ⟨[some 1], by kernel_rfl, by kernel_rfl, by kernel_rfl⟩
 refine nR K (tn 2) ?_
 refine cnd h ?_ ?_<;>intro h
 ·refine sq <| VW.region <| nG K 3 (tn 3) ?_
  obtain⟨y35,hy,h⟩:=aS h
  refine VO.callM [0] [.r, .t (.int .i64)] (d := some 51) (by kernel_rfl) (by kernel_rfl) (ih _ _ _ hy) (by kernel_rfl) <| nN K (tn 5) <| sq <| VW.region <| nG K 3 (tn 3) ?_
  obtain⟨y36,hy,h⟩:=aS h
  refine VO.callM [0] [.r, .t (.int .i64)] (d := some 58) (by kernel_rfl) (by kernel_rfl) (ih _ _ _ hy) (by kernel_rfl) <| nN K (tn 5) <| sq <| VW.region <| nG K 2 (tn 2) ?_
  obtain⟨y37,hy,h⟩:=aS h
  refine VO.callM [0] [.r, .t (.int .i64)] (d := some 63) (by kernel_rfl) (by kernel_rfl) (ok42 N _ _ hy) (by kernel_rfl) <| nG K 2 (tn 2) ?_
  obtain⟨y38,hy,h⟩:=aS h
  refine VO.callM [0] [.r, .t (.int .i64)] (d := some 66) (by kernel_rfl) (by kernel_rfl) (ok42 N _ _ hy) (by kernel_rfl) <| nN K (tn 3) <| sq <| VW.region <| nG K 1 (tn 1) <| VO.litA (d := 69) (v := hh 4) (H' := [bx (lv Y102 y38.1) 103, ar 0 Y73 y35.2.1 .dp, ar 0 Y73 y36.2.1 .dp, bx [zi (3 : Int), zs ByteArray.empty, zi y37.2, zi (0 : Int), zi y38.2, zb false, .nil] 74, ar 0 Y73 ([((3 : Int), (ByteArray.empty, (y37.2, ((0 : Int), (y38.2, (false, []))))))] : List Z73) .dp]) K (by kernel_rfl) ?_
  refine nG K 2 (tn 2) <| VO.ghl [.frz 4, .frz 1, .frz 2] <| nG K 1 (tn 1) ?_
  obtain⟨y39,hy,h⟩:=aS h
  refine clc true [.t (.sl (.sl Y73))] [] (some 73) K (ok92 N _ hy) <| nN K (tn 5) ?_
  replace h := Option.some.inj h
  subst h
  refine VW.ghl [.ren [4, 5, 65536] [0, 6]] (VW.ret ?_)
  exact ⟨[some 1], by kernel_rfl, by kernel_rfl, by kernel_rfl⟩
 refine nR K (tn 2) ?_
 refine cnd h ?_ ?_<;>intro h
 ·refine sq <| VW.region <| nG K 3 (tn 3) ?_
  obtain⟨y40,hy,h⟩:=aS h
  refine VO.callM [0] [.r, .t (.int .i64)] (d := some 83) (by kernel_rfl) (by kernel_rfl) (ih _ _ _ hy) (by kernel_rfl) <| nN K (tn 5) <| sq <| VW.region <| nG K 3 (tn 3) ?_
  obtain⟨y41,hy,h⟩:=aS h
  refine VO.callM [0] [.r, .t (.int .i64)] (d := some 90) (by kernel_rfl) (by kernel_rfl) (ih _ _ _ hy) (by kernel_rfl) <| nN K (tn 5) ?_
  refine VW.join (fun s => ∃ x44 x45 x46 x47 x48 x49, s = ⟨[(15, hh 0), (16, I x45), (17, hh 1), (65536, .lf (.ptr 2 0 0 0))], [ar 0 Y73 x44 .dp, ar 0 Y73 x46 .dp, bx [.v (.sl (.int .u8)) x47, zi x48, zi x49] 103]⟩ ∧ F43_j0 N x44 x45 x46 x47 x48 x49 = some r) ?_ ?_
  ·refine nR K (tn 3) ?_
   refine cnd h ?_ ?_<;>intro h
   ·refine sq <| VW.region <| nG K 2 (tn 2) <| VO.litA (d := 98) (v := hh 4) (H' := [bx (lv Y102 y41.1) 103, ar 0 Y73 y40.2.1 .dp, ar 0 Y73 y41.2.1 .dp, none, ar 0 Y73 ([((2 : Int), (ByteArray.empty, ((0 : Int), ((0 : Int), ((0 : Int), (false, [(0 : Int)]))))))]) .dp]) K (by kernel_rfl) <| nG K 1 (tn 1) <| VO.ghl [.frz 4, .frz 1] <| nG K 1 (tn 1) ?_
    obtain⟨y52,hy,h⟩:=aS h
    refine clc true [.t (.sl (.sl Y73))] [] (some 101) K (ok92 N _ hy) <| nN K (tn 1) <| sq <| VW.region <| nG K 2 (tn 2) <| VO.litA (d := 104) (v := hh 8) (H' := [bx (lv Y102 y41.1) 103, none, ar 0 Y73 y41.2.1 .dp, none, none, ar 0 (.sl Y73) ([[((2 : Int), (ByteArray.empty, ((0 : Int), ((0 : Int), ((0 : Int), (false, [(0 : Int)]))))))], y40.2.1]) .tp, ar 0 Y73 y52 .dp, none, ar 0 Y73 ([((2 : Int), (ByteArray.empty, ((0 : Int), ((0 : Int), ((0 : Int), (false, [(0 : Int)]))))))]) .dp]) K (by kernel_rfl) ?_
    refine nG K 1 (tn 1) <| VO.ghl [.frz 8, .frz 2] <| nG K 1 (tn 1) ?_
    obtain⟨y53,hy,h⟩:=aS h
    refine clc true [.t (.sl (.sl Y73))] [] (some 107) K (ok92 N _ hy) <| nN K (tn 1) <| nE K (tn 1) ?_
    exact arv [.ren [15, 16, 17, 65536] [6, 10, 0]] ⟨y52, (1 : Int), y53, y41.1.1, y41.1.2.1, y41.1.2.2, rfl, h⟩
   refine VW.skip ?_
   exact arv [.ren [15, 16, 17, 65536] [1, 2, 0]] ⟨y40.2.1, y40.2.2, y41.2.1, y41.1.1, y41.1.2.1, y41.1.2.2, rfl, h⟩
  rintro s ⟨x44, x45, x46, x47, x48, x49, rfl, h⟩
  unfold F43_j0 at h
  refine sq <| VW.region <| nG K 1 (tn 1) <| VO.litA (d := 109) (v := hh 3) (H' := [ar 0 Y73 x44 .dp, ar 0 Y73 x46 .dp, bx [.v (.sl (.int .u8)) x47, zi x48, zi x49] 103, ar 0 Y73 ([((4 : Int), (ByteArray.empty, ((0 : Int), ((0 : Int), ((0 : Int), (false, []))))))] : List Z73) .dp]) K (by kernel_rfl) <| nG K 2 (tn 2) <| VO.ghl [.frz 3, .frz 0, .frz 1] <| nG K 1 (tn 1) ?_
  obtain⟨y50,hy,h⟩:=aS h
  refine clc true [.t (.sl (.sl Y73))] [] (some 113) K (ok92 N _ hy) <| nN K (tn 3) ?_
  replace h := Option.some.inj h
  subst h
  refine VW.ghl [.ren [4, 5, 65536] [2, 5]] (VW.ret ?_)
  exact ⟨[some 1], by kernel_rfl, by kernel_rfl, by kernel_rfl⟩
 refine VW.skip <| sq <| VW.region <| nG K 3 (tn 3) ?_
 obtain⟨y54,hy,h⟩:=aS h
 refine VO.callM [0] [.r, .t (.int .i64)] (d := some 119) (by kernel_rfl) (by kernel_rfl) (ih _ _ _ hy) (by kernel_rfl) <| nN K (tn 5) <| nR K (tn 4) ?_
 refine VW.join (fun s => ∃ x120 x121 x122 x123 x124 x125 x126 x127 x128, s = ⟨[(19, hh 0), (20, I x121), (21, .lf (.ptr 1 0 0 0)), (65536, .lf (.ptr 3 0 0 0))], [ar 0 Y73 x120 .dp, bx [zi x5, zs ByteArray.empty, zi x122, zi x123, zi x124, zb false, .hd 2 0 none] 74, ar 0 (.int .i64) x125 .dp, bx [.v (.sl (.int .u8)) x126, zi x127, zi x128] 103]⟩ ∧ F43_j1 N x5 x120 x121 x122 x123 x124 x125 x126 x127 x128 = some r) ?_ ?_
 ·refine nR K (tn 1) <| VW.block <| nR K (tn 2) ?_
  refine cnd h ?_ ?_<;>intro h
  ·refine sq <| VW.region <| nG K 2 (tn 2) ?_
   obtain⟨y131,hy,h⟩:=aS h
   refine VO.callM [0] [.r, .t (.int .i64)] (d := some 129) (by kernel_rfl) (by kernel_rfl) (ok42 N _ _ hy) (by kernel_rfl) <| nN K (tn 2) <| sq <| VW.region <| nG K 1 (tn 1) ?_
   obtain⟨y132,hy,h⟩:=aS h
   refine VO.callM [0] [.r, .t (.int .i64)] (d := some 132) (by kernel_rfl) (by kernel_rfl) (ok42 N _ _ hy) (by kernel_rfl) <| sN K [0, 19, 20, 21, 65536] [0, 1, 2] ⟨[(0, .lf (.ptr 0 0 0 0)), (19, hh 1), (20, I y54.2.2), (21, .lf (.ptr 2 0 0 0)), (65536, .lf (.ptr 0 0 0 0))], [bx (lv Y102 y132.1) 103, ar 0 Y73 y54.2.1 .dp, bx [zi x5, zs ByteArray.empty, zi y131.2, zi y132.2, zi (0 : Int), zb false, .nil] 74]⟩ (tn 2) ?_
   refine nR K (tn 3) ?_
   refine cnd h ?_ ?_<;>intro h
   ·refine VW.region <| nG K 1 (tn 1) ?_
    obtain⟨y133,hy,h⟩:=aS h
    refine VO.callM [0] [.r, .t (.int .i64)] (d := some 138) (by kernel_rfl) (by kernel_rfl) (ok42 N _ _ hy) (by kernel_rfl) <| nN K (tn 3) ?_
    exact arv [.nil 2 6 (.int .i64) .dp, .ren [19, 20, 21, 65536] [1, 2, 3, 0]] ⟨y54.2.1, y54.2.2, y131.2, y132.2, (wr (y133.2 - (1 : Int))), [], y133.1.1, y133.1.2.1, y133.1.2.2, rfl, h⟩
   refine VW.skip ?_
   exact arv [.nil 2 6 (.int .i64) .dp, .ren [19, 20, 21, 65536] [1, 2, 3, 0]] ⟨y54.2.1, y54.2.2, y131.2, y132.2, (0 : Int), [], y132.1.1, y132.1.2.1, y132.1.2.2, rfl, h⟩
  refine nR K (tn 2) ?_
  refine cnd h ?_ ?_<;>intro h
  ·refine VW.join (fun s => ∃ x161 x162 x163 x164 x165, s = ⟨[(19, hh 0), (21, .lf (.ptr 1 0 0 0)), (65536, .lf (.ptr 3 0 0 0))], [ar 0 Y73 x161 .dp, bx [zi x5, zs ByteArray.empty, zi (0 : Int), zi (0 : Int), zi (0 : Int), zb false, .hd 2 0 none] 74, ar 0 (.int .i64) x162 .dp, bx [.v (.sl (.int .u8)) x163, zi x164, zi x165] 103]⟩ ∧ F43_j2 N x5 x161 x162 x163 x164 x165 = some r) ?_ ?_
   ·refine sq <| VW.region <| nG K 1 (tn 1) ?_
    obtain⟨y167,hy,h⟩:=aS h
    refine VO.callM [0] [.r, .t (.int .i64)] (d := some 144) (by kernel_rfl) (by kernel_rfl) (ok42 N _ _ hy) (by kernel_rfl) <| nN K (tn 2) <| VW.block <| lop (fun k s => ∃ x178 x179 x180 x181 x182 x183 x184, s = ⟨[(0, .lf (.ptr 0 0 0 0)), (19, hh 1), (20, I x182), (21, .lf (.ptr 2 0 0 0)), (22, I x184), (65536, .lf (.ptr 0 0 0 0))], [bx [.v (.sl (.int .u8)) x178, zi x179, zi x180] 103, ar 0 Y73 x181 .dp, bx [zi x5, zs ByteArray.empty, zi (0 : Int), zi (0 : Int), zi (0 : Int), zb false, .hd 3 0 none] 74, ar 0 (.int .i64) x183 .dp]⟩ ∧ F43_l0 N x5 k x178 x179 x180 x181 x182 x183 x184 = some r) N [.nil 2 6 (.int .i64) .dp, .ren [0, 19, 20, 21, 22, 65536] [0, 1, 2, 3]] ⟨y167.1.1, y167.1.2.1, y167.1.2.2, y54.2.1, y54.2.2, [], (wr ((1 : Int) + y167.2)), rfl, h⟩ ?_
    rintro k189 s ⟨x178, x179, x180, x181, x182, x183, x184, rfl, h⟩
    cases k189 with
    | zero => cases show none = some r from h
    | succ k189 =>
     replace h : F43_l0_b N x5 (F43_l0 N x5 k189) x178 x179 x180 x181 x182 x183 x184 = some r := h
     unfold F43_l0_b at h
     refine sq <| nR K (tn 2) ?_
     refine cnd h ?_ ?_<;>intro h
     ·refine VW.skip <| sq <| VW.block <| VW.ghl [.ren [0, 19, 20, 21, 22, 65536] [0, 1, 2, 3]] ?_
      obtain⟨y192,hy192,h⟩:=aS h
      obtain⟨g193,h⟩:=gS h
      refine VW.drawn (by kernel_rfl) [some (150, .lf (.ptr 2 0 0 6)), some (151, hh 3), some (152, .lf (.ptr 0 0 0 0)), some (153, I x182), some (154, I y192.2), some (155, hh 4), some (156, .lf (.hd 3 1 none)), some (157, .lf (.ptr 2 0 0 6)), none] [4, 5, 6, 8] [[bx [.v (.sl (.int .u8)) x178, zi x179, zi x180] 103, ar 0 Y73 x181 .dp, bx [zi x5, zs ByteArray.empty, zi (0 : Int), zi (0 : Int), zi (0 : Int), zb false, .hd 3 0 none] 74, ar 0 (.int .i64) x183 .dp], [bx (lv Y102 y192.1) 103, ar 0 Y73 x181 .dp, bx [zi x5, zs ByteArray.empty, zi (0 : Int), zi (0 : Int), zi (0 : Int), zb false, .hd 3 0 none] 74, ar 0 (.int .i64) x183 .dp], [bx (lv Y102 y192.1) 103, ar 0 Y73 x181 .dp, bx [zi x5, zs ByteArray.empty, zi (0 : Int), zi (0 : Int), zi (0 : Int), zb false, .hd 3 0 none] 74, ar 0 (.int .i64) x183 .dp, ar 0 (.int .i64) ([y192.2]) .dp], [bx (lv Y102 y192.1) 103, ar 0 Y73 x181 .dp, bx [zi x5, zs ByteArray.empty, zi (0 : Int), zi (0 : Int), zi (0 : Int), zb false, .hd 3 0 none] 74, ar 1 (.int .i64) (x183 ++ ([y192.2])) .dp, ar 0 (.int .i64) ([y192.2]) .dp], [bx (lv Y102 y192.1) 103, ar 0 Y73 x181 .dp, bx [zi x5, zs ByteArray.empty, zi (0 : Int), zi (0 : Int), zi (0 : Int), zb false, .hd 3 1 none] 74, ar 1 (.int .i64) (x183 ++ ([y192.2])) .dp, ar 0 (.int .i64) ([y192.2]) .dp]] [(0, 0), (0, 1), (0, 2), (0, 3), (1, 0), (1, 1), (1, 2), (2, 0), (3, 0), (4, 0), (5, 1), (6, 2), (7, 3), (8, 3)] [0, 19, 20, 21, 22, 65536] [0, 1, 2, 3] (s' := ⟨[(0, .lf (.ptr 0 0 0 0)), (19, hh 1), (20, I x182), (21, .lf (.ptr 2 0 0 0)), (22, I x184), (65536, .lf (.ptr 0 0 0 0))], [bx (lv Y102 y192.1) 103, ar 0 Y73 x181 .dp, bx [zi x5, zs ByteArray.empty, zi (0 : Int), zi (0 : Int), zi (0 : Int), zb false, .hd 3 0 none] 74, ar 0 (.int .i64) (x183 ++ ([y192.2])) .dp]⟩) (by kernel_rfl) (by kernel_rfl) ⟨qT K,
    qT K,
    qT K,
    qT K,
    qT K,
    qT K,
    qT K,
    qT K,
    qT K,
    ⟨_, rfl, Stp.eq (Stp.callM [0] [.r, .t (.int .i64)] (d := some 154) (by kernel_rfl) (by kernel_rfl) (ok42 N _ _ hy192) (by kernel_rfl)) (by kernel_rfl) (by kernel_rfl)⟩,
    qT K,
    ⟨_, rfl, Stp.ev K (m := .dp) (φ := x183.length + ([y192.2]).length ≤ lim (.int .i64)) (by kernel_rfl) g193⟩,
    qT K,
    qT K, trivial⟩ (by kernel_rfl) ?_
      refine nE K (tn 3) ?_
      exact aro [.ren [0, 19, 20, 21, 22, 65536] [0, 1, 2, 3]] ⟨y192.1.1, y192.1.2.1, y192.1.2.2, x181, x182, (x183 ++ ([y192.2])), (wr (x184 - (1 : Int))), rfl, h⟩
     refine VW.exit ?_
     exact arv [.ren [19, 21, 65536] [1, 2, 3, 0]] ⟨x181, x183, x178, x179, x180, rfl, h⟩
   rintro s ⟨x161, x162, x163, x164, x165, rfl, h⟩
   unfold F43_j2 at h
   refine nE K (tn 4) ?_
   exact arv [.ren [19, 20, 21, 65536] [0, 1, 2, 3]] ⟨x161, (x162.length : Int), (0 : Int), (0 : Int), (0 : Int), x162, x163, x164, x165, rfl, h⟩
  refine nR K (tn 2) ?_
  refine cnd h ?_ ?_<;>intro h
  ·refine VW.region <| nG K 2 (tn 2) ?_
   obtain⟨y194,hy,h⟩:=aS h
   refine VO.callM [0] [.r, .t (.int .i64)] (d := some 165) (by kernel_rfl) (by kernel_rfl) (ok42 N _ _ hy) (by kernel_rfl) <| sN K [19, 20, 21, 65536] [1, 2, 0] ⟨[(19, hh 0), (20, I y54.2.2), (21, .lf (.ptr 1 0 0 0)), (65536, .lf (.ptr 2 0 0 0))], [ar 0 Y73 y54.2.1 .dp, bx [zi x5, zs ByteArray.empty, zi y194.2, zi (0 : Int), zi (0 : Int), zb false, .nil] 74, bx (lv Y102 y194.1) 103]⟩ (tn 2) ?_
   exact arv [.nil 1 6 (.int .i64) .dp, .ren [19, 20, 21, 65536] [0, 1, 3, 2]] ⟨y54.2.1, y54.2.2, y194.2, (0 : Int), (0 : Int), [], y194.1.1, y194.1.2.1, y194.1.2.2, rfl, h⟩
  refine nR K (tn 2) ?_
  refine cnd h ?_ ?_<;>intro h
  ·refine VW.region <| sG K 1 [19, 20, 21, 169, 65536] [1, 2, 0] ⟨[(19, hh 0), (20, I y54.2.2), (21, .lf (.ptr 1 0 0 0)), (169, .lf (.ptr 2 0 0 0)), (65536, .lf (.ptr 2 0 0 0))], [ar 0 Y73 y54.2.1 .dp, bx [zi x5, zs ByteArray.empty, zi (0 : Int), zi (0 : Int), zi (0 : Int), zb false, .nil] 74, bx (lv Y102 y54.1) 103]⟩ (tn 1) ?_
   obtain⟨y195,hy,h⟩:=aS h
   refine VO.callM [2] [.r, .t (.int .i64)] (d := some 170) (by kernel_rfl) (by kernel_rfl) (ok42 N _ _ hy) (by kernel_rfl) <| nN K (tn 2) ?_
   exact arv [.nil 1 6 (.int .i64) .dp, .ren [19, 20, 21, 65536] [0, 1, 3, 2]] ⟨y54.2.1, y54.2.2, (0 : Int), (0 : Int), y195.2, [], y195.1.1, y195.1.2.1, y195.1.2.2, rfl, h⟩
  refine VW.skip ?_
  exact arv [.nil 2 6 (.int .i64) .dp, .ren [19, 20, 21, 65536] [1, 2, 3, 0]] ⟨y54.2.1, y54.2.2, (0 : Int), (0 : Int), (0 : Int), [], y54.1.1, y54.1.2.1, y54.1.2.2, rfl, h⟩
 rintro s ⟨x120, x121, x122, x123, x124, x125, x126, x127, x128, rfl, h⟩
 unfold F43_j1 at h
 refine sq <| VW.region <| nG K 1 (tn 1) <| VO.litA (d := 173) (v := hh 4) (H' := [ar 0 Y73 x120 .dp, bx [zi x5, zs ByteArray.empty, zi x122, zi x123, zi x124, zb false, .hd 2 0 none] 74, none, bx [.v (.sl (.int .u8)) x126, zi x127, zi x128] 103, ar 0 Y73 ([(x5, (ByteArray.empty, (x122, (x123, (x124, (false, x125))))))]) .dp]) K (by kernel_rfl) <| nG K 1 (tn 1) <| VO.ghl [.frz 4, .frz 0] <| nG K 1 (tn 1) ?_
 obtain⟨y129,hy,h⟩:=aS h
 refine clc true [.t (.sl (.sl Y73))] [] (some 176) K (ok92 N _ hy) <| nN K (tn 3) ?_
 replace h := Option.some.inj h
 subst h
 refine VW.ghl [.ren [4, 5, 65536] [3, 6]] (VW.ret ?_)
 exact ⟨[some 1], by kernel_rfl, by kernel_rfl, by kernel_rfl⟩
def F43_r (N : Nat) := loopF (F43_b N) (fun _ _ => none)
theorem F43_s N {k} (hk : 0 < k) a0 a1 : F43_r N k a0 a1 = F43_b N (F43_r N (k - 1)) a0 a1 := by cases k;cases hk;rfl
def F43 (N : Nat) : Z102 → Int → Option (Z102 × (List Z73) × Int) := F43_r N N
theorem ok43_k (N : Nat) : ∀ (k : Nat) (a0 : Z102) (a1 : Int) (r : Z102 × (List Z73) × Int), loopF (F43_b N) (fun _ _ => none) k a0 a1 = some r → ConM prog 43 [bx (lv Y102 a0) 103] [.lf (.ptr 0 0 0 0), I a1] [.lf (.own Y73 r.2.1 .dp), .lf (.v (.int .i64) r.2.2)] [bx (lv Y102 r.1) 103]
 | 0, a0, a1, r, h => nomatch (show (none : Option (Z102 × (List Z73) × Int)) = some r from h)
 | k + 1, a0, a1, r, h => ok43_b N _ (ok43_k N k) a0 a1 h
theorem ok43 N a0 a1 {r} (h : F43 N a0 a1 = some r) : ConM prog 43 [bx (lv Y102 a0) 103] [.lf (.ptr 0 0 0 0), I a1] [.lf (.own Y73 r.2.1 .dp), .lf (.v (.int .i64) r.2.2)] [bx (lv Y102 r.1) 103] := ok43_k N N a0 a1 r h
def F115 (N : Nat) (a0 : (List Int)) (a1 : Int) : Option (Int) :=
  cond (decide ((IntKind.i64.wrap ((2 : Int) + (IntKind.i64.wrap (Int.tdiv (a0.length : Int) (16 : Int))))) > a1)) (some a1) (some (IntKind.i64.wrap ((2 : Int) + (IntKind.i64.wrap (Int.tdiv (a0.length : Int) (16 : Int))))))
theorem ok115 N a0 a1 {r} (h : F115 N a0 a1 = some r) : Con prog 115 [Vv (.sl (.int .u8)) a0, I a1] [.lf (.v (.int .i64) r)] := by
 refine ctr [.lf (.v (.int .i64))] K func115 rfl fun w0 E0 ht => ?_
 unfold F115 at h
 show VW _ _ _ _ _ (retQ _ _ _ _) _
 refine nR K (tn 1) <| nR K (pu 2 (an (show ((16 : Int) ≠ 0) from by decide) (tn 2))) <| sq <| nR K (tn 3) ?_
 refine cnd h ?_ ?_<;>intro h
 ·refine nR K (tn 2) ?_
  cases h; exact VW.ret (rt [])
 refine VW.skip <| nR K (tn 2) ?_
 cases h; exact VW.ret (rt [])
def F61 (N : Nat) (a0 : Int) (a1 : Int) (a2 : Int) : Option (Bool) :=
  cond (decide (a0 ≥ a1)) (some (decide (a0 ≤ a2))) (some false)
theorem ok61 N a0 a1 a2 {r} (h : F61 N a0 a1 a2 = some r) : Con prog 61 [I a0, I a1, I a2] [.lf (.v .bool r)] := by
 refine ctr [.lf (.v .bool)] K func61 rfl fun w0 E0 ht => ?_
 unfold F61 at h
 show VW _ _ _ _ _ (retQ _ _ _ _) _
 refine nR K (tn 1) <| sq <| VW.region <| nG K 4 (tn 4) ?_
 refine spC 10 h ?_ ?_<;>intro h
 ·refine nN K (tn 5) ?_
  cases h; exact VW.ret (rt [])
 refine nN K (tn 5) ?_
 cases h; exact VW.ret (rt [])
def F80_j0 (N : Nat) (a0 : ByteArray) : Option (Bool) :=
  andO (F61 N (a0.size : Int) (1 : Int) (12 : Int)) fun y14 => some y14
def F80_j1 (N : Nat) (nx25 : Int → Int → Option (Bool)) (x20 : Int) (x21 : Int) : Option (Bool) :=
  nx25 x20 (IntKind.i64.wrap (x21 + (1 : Int)))
def F80_l0_b (N : Nat) (a0 : ByteArray) (nx25 : Int → Int → Option (Bool)) (x20 : Int) (x21 : Int) : Option (Bool) :=
  cond (decide (x21 < x20)) (gd (InR x21 a0.size) (cond (decide (((a0.data.getD x21.toNat 0).toNat : Int) ≥ (97 : Int))) (cond (!(decide (((a0.data.getD x21.toNat 0).toNat : Int) ≤ (122 : Int)))) (cond (x21 == (0 : Int)) (some false) (cond (decide (((a0.data.getD x21.toNat 0).toNat : Int) < (48 : Int))) (some false) (cond (decide (((a0.data.getD x21.toNat 0).toNat : Int) > (57 : Int))) (some false) (F80_j1 N nx25 x20 x21)))) (F80_j1 N nx25 x20 x21)) (cond (x21 == (0 : Int)) (some false) (cond (decide (((a0.data.getD x21.toNat 0).toNat : Int) < (48 : Int))) (some false) (cond (decide (((a0.data.getD x21.toNat 0).toNat : Int) > (57 : Int))) (some false) (F80_j1 N nx25 x20 x21)))))) (F80_j0 N a0)
def F80_l0 (N : Nat) (a0 : ByteArray) := loopF (F80_l0_b N a0) (fun _ _ => none)
theorem F80_l0_s N a0 {k} (hk : 0 < k) x20 x21 : F80_l0 N a0 k x20 x21 = F80_l0_b N a0 (F80_l0 N a0 (k - 1)) x20 x21 := by cases k;cases hk;rfl
def F80 (N : Nat) (a0 : ByteArray) : Option (Bool) :=
  F80_l0 N a0 N (a0.size : Int) (0 : Int)
theorem ok80 N a0 {r} (h : F80 N a0 = some r) : Con prog 80 [S a0] [.lf (.v .bool r)] := by
 refine ctr [.lf (.v .bool)] K func80 rfl fun w0 E0 ht => ?_
 unfold F80 at h
 show VW _ _ _ _ _ (retQ _ _ _ _) _
 refine nR K (tn 1) ?_
 refine VW.join (fun s => s = ⟨[(0, S a0)], []⟩ ∧ F80_j0 N a0 = some r) ?_ ?_
 ·refine nR K (tn 3) <| VW.block <| lop (fun k s => ∃ x20 x21, s = ⟨[(0, S a0), (7, I x20), (8, I x21)], []⟩ ∧ F80_l0 N a0 k x20 x21 = some r) N [.ren [0, 7, 8] []] ⟨(a0.size : Int), (0 : Int), rfl, h⟩ ?_
  rintro k25 s ⟨x20, x21, rfl, h⟩
  cases k25 with
  | zero => cases show none = some r from h
  | succ k25 =>
   replace h : F80_l0_b N a0 (F80_l0 N a0 k25) x20 x21 = some r := h
   unfold F80_l0_b at h
   refine nR K (tn 1) <| sq ?_
   refine cnd h ?_ ?_<;>intro h
   ·refine VW.skip ?_
    refine VW.join (fun s => s = ⟨[(0, S a0), (7, I x20), (8, I x21)], []⟩ ∧ F80_j1 N (F80_l0 N a0 k25) x20 x21 = some r) ?_ ?_
    ·refine VW.block <| nR K (tn 2) ?_
     obtain⟨g28,h⟩:=gS h
     refine nR K (pu 2 (an g28 (tn 1))) <| sq <| VW.region <| nG K 3 (tn 3) ?_
     refine spC 16 h ?_ ?_<;>intro h
     ·refine nN K (tn 4) <| sq <| VW.region <| nG K 3 (tn 3) ?_
      refine spC 22 h ?_ ?_<;>intro h
      ·refine nG K 3 (tn 3) ?_
       refine spC 25 h ?_ ?_<;>intro h
       ·refine nN K (tn 8) ?_
        refine VW.cond (b := true) (by kernel_rfl) (fun _ => ?_) (fun h' => nomatch h')
        refine nR K (tn 1) ?_
        cases h; exact VW.ret (rt [])
       refine nG K 4 (tn 4) ?_
       refine spC 29 h ?_ ?_<;>intro h
       ·refine nN K (tn 4) ?_
        refine VW.cond (b := true) (by kernel_rfl) (fun _ => ?_) (fun h' => nomatch h')
        refine nR K (tn 1) ?_
        cases h; exact VW.ret (rt [])
       refine nN K (tn 4) ?_
       refine cnd h ?_ ?_<;>intro h
       ·refine nR K (tn 1) ?_
        cases h; exact VW.ret (rt [])
       refine VW.skip ?_
       exact arv [.ren [0, 7, 8] []] ⟨rfl, h⟩
      refine nN K (tn 11) ?_
      refine VW.cond (b := false) (by kernel_rfl) (fun h' => nomatch h') (fun _ => ?_)
      refine VW.skip ?_
      exact arv [.ren [0, 7, 8] []] ⟨rfl, h⟩
     refine nN K (tn 4) <| sq <| VW.region <| nG K 6 (tn 6) ?_
     refine spC 25 h ?_ ?_<;>intro h
     ·refine nN K (tn 8) ?_
      refine VW.cond (b := true) (by kernel_rfl) (fun _ => ?_) (fun h' => nomatch h')
      refine nR K (tn 1) ?_
      cases h; exact VW.ret (rt [])
     refine nG K 4 (tn 4) ?_
     refine spC 29 h ?_ ?_<;>intro h
     ·refine nN K (tn 4) ?_
      refine VW.cond (b := true) (by kernel_rfl) (fun _ => ?_) (fun h' => nomatch h')
      refine nR K (tn 1) ?_
      cases h; exact VW.ret (rt [])
     refine nN K (tn 4) ?_
     refine cnd h ?_ ?_<;>intro h
     ·refine nR K (tn 1) ?_
      cases h; exact VW.ret (rt [])
     refine VW.skip ?_
     exact arv [.ren [0, 7, 8] []] ⟨rfl, h⟩
    rintro s ⟨rfl, h⟩
    unfold F80_j1 at h
    refine nE K (tn 2) ?_
    exact aro [.ren [0, 7, 8] []] ⟨x20, (wr (x21 + (1 : Int))), rfl, h⟩
   refine VW.exit ?_
   exact arv [.ren [0] []] ⟨rfl, h⟩
 rintro s ⟨rfl, h⟩
 unfold F80_j0 at h
 refine sq <| VW.region <| nG K 2 (tn 2) ?_
 obtain⟨y14,hy,h⟩:=aS h
 refine clc false [.t (.int .i64), .t (.int .i64), .t (.int .i64)] [] (some 37) K (ok61 N _ _ _ hy) <| nN K (tn 1) ?_
 cases h; exact VW.ret (rt [])
def F37_j0 (N : Nat) (a0 : (List Z77)) : Option (Bool) :=
  some (decide ((a0.length : Int) ≤ (8 : Int)))
def F37_j1 (N : Nat) (nx84 : Int → Int → Option (Bool)) (x67 : Int) (x68 : Int) : Option (Bool) :=
  nx84 x67 (IntKind.i64.wrap (x68 + (1 : Int)))
def F37_l0_b (N : Nat) (a0 : (List Z77)) (nx84 : Int → Int → Option (Bool)) (x67 : Int) (x68 : Int) : Option (Bool) :=
  cond (decide (x68 < x67)) (gd (InR x68 a0.length) (andO (F80 N ((a0.getD x68.toNat (Ty.dflt Y77)).1)) fun y94 => cond (!y94) (some false) (andO (F61 N ((a0.getD x68.toNat (Ty.dflt Y77)).2) (1 : Int) (6 : Int)) fun y96 => cond (!y96) (some false) (cond (decide (x68 > (0 : Int))) (gd (InR (IntKind.i64.wrap (x68 - (1 : Int))) a0.length) (cond (!(Op.bytesLess ((a0.getD (IntKind.i64.wrap (x68 - (1 : Int))).toNat (Ty.dflt Y77)).1).toList ((a0.getD x68.toNat (Ty.dflt Y77)).1).toList)) (some false) (F37_j1 N nx84 x67 x68))) (F37_j1 N nx84 x67 x68))))) (F37_j0 N a0)
def F37_l0 (N : Nat) (a0 : (List Z77)) := loopF (F37_l0_b N a0) (fun _ _ => none)
theorem F37_l0_s N a0 {k} (hk : 0 < k) x67 x68 : F37_l0 N a0 k x67 x68 = F37_l0_b N a0 (F37_l0 N a0 (k - 1)) x67 x68 := by cases k;cases hk;rfl
def F37 (N : Nat) (a0 : (List Z77)) : Option (Bool) :=
  F37_l0 N a0 N (a0.length : Int) (0 : Int)
theorem ok37 N a0 {r} (h : F37 N a0 = some r) : Con prog 37 [Vv (.sl Y77) a0] [.lf (.v .bool r)] := by
 refine ctr [.lf (.v .bool)] K func37 rfl fun w0 E0 ht => ?_
 unfold F37 at h
 show VW _ _ _ _ _ (retQ _ _ _ _) _
 refine nR K (tn 1) ?_
 refine VW.join (fun s => s = ⟨[(0, Vv (.sl Y77) a0)], []⟩ ∧ F37_j0 N a0 = some r) ?_ ?_
 ·refine nR K (tn 3) <| VW.block <| lop (fun k s => ∃ x67 x68, s = ⟨[(0, Vv (.sl Y77) a0), (5, Vv (.sl Y77) a0), (6, I x67), (7, I x68)], []⟩ ∧ F37_l0 N a0 k x67 x68 = some r) N [.ren [0, 5, 6, 7] []] ⟨(a0.length : Int), (0 : Int), rfl, h⟩ ?_
  rintro k84 s ⟨x67, x68, rfl, h⟩
  cases k84 with
  | zero => cases show none = some r from h
  | succ k84 =>
   replace h : F37_l0_b N a0 (F37_l0 N a0 k84) x67 x68 = some r := h
   unfold F37_l0_b at h
   refine nR K (tn 1) <| sq ?_
   refine cnd h ?_ ?_<;>intro h
   ·refine VW.skip ?_
    refine VW.join (fun s => s = ⟨[(0, Vv (.sl Y77) a0), (5, Vv (.sl Y77) a0), (6, I x67), (7, I x68)], []⟩ ∧ F37_j1 N (F37_l0 N a0 k84) x67 x68 = some r) ?_ ?_
    ·refine VW.block ?_
     obtain⟨g93,h⟩:=gS h
     refine nR K (pu 1 (an g93 (tn 4))) <| sq ?_
     obtain⟨y94,hy94,h⟩:=aS h
     rcases Bool.eq_false_or_eq_true (!y94) with hb95 | hb95
     ·replace h := cond_t h hb95
      refine dr K [(2, .cl [] (some 14) [.lf (.v .bool y94)]), (4, .lit true)] [(2, 0), (4, 0)] [] [0, 5, 6, 7, 36] [] (tn 25) ⟨qC false [.t .str] [] [] (some 14) K (ok80 N _ hy94), qB 16 hb95 K trivial, trivial⟩ ?_
      refine VW.cond (b := true) (by kernel_rfl) (fun _ => ?_) (fun h' => nomatch h')
      refine nR K (tn 1) ?_
      cases h; exact VW.ret (rt [])
     replace h := cond_f h hb95
     obtain⟨y96,hy96,h⟩:=aS h
     rcases Bool.eq_false_or_eq_true (!y96) with hb97 | hb97
     ·replace h := cond_t h hb97
      refine dr K [(2, .cl [] (some 14) [.lf (.v .bool y94)]), (4, .lit false), (7, .cl [] (some 19) [.lf (.v .bool y96)]), (10, .lit true)] [(2, 0), (4, 0), (7, 0), (10, 0)] [] [0, 5, 6, 7, 36] [] (tn 25) ⟨qC false [.t .str] [] [] (some 14) K (ok80 N _ hy94), qB 16 hb95 K trivial, qC false [.t (.int .i64), .t (.int .i64), .t (.int .i64)] [] [] (some 19) K (ok61 N _ _ _ hy96), qB 22 hb97 K trivial, trivial⟩ ?_
      refine VW.cond (b := true) (by kernel_rfl) (fun _ => ?_) (fun h' => nomatch h')
      refine nR K (tn 1) ?_
      cases h; exact VW.ret (rt [])
     replace h := cond_f h hb97
     rcases Bool.eq_false_or_eq_true (decide (x68 > (0 : Int))) with hb98 | hb98
     ·replace h := cond_t h hb98
      obtain⟨g99,h⟩:=gS h
      refine dr K [(2, .cl [] (some 14) [.lf (.v .bool y94)]), (4, .lit false), (7, .cl [] (some 19) [.lf (.v .bool y96)]), (10, .lit false), (13, .lit true)] [(2, 0), (4, 0), (7, 0), (10, 0), (13, 0)] [] [0, 5, 6, 7, 36] [] (pu 17 (an g99 (tn 7))) ⟨qC false [.t .str] [] [] (some 14) K (ok80 N _ hy94), qB 16 hb95 K trivial, qC false [.t (.int .i64), .t (.int .i64), .t (.int .i64)] [] [] (some 19) K (ok61 N _ _ _ hy96), qB 22 hb97 K trivial, qB 25 hb98 K trivial, trivial⟩ ?_
      refine cnd h ?_ ?_<;>intro h
      ·refine nR K (tn 1) ?_
       cases h; exact VW.ret (rt [])
      refine VW.skip ?_
      exact arv [.ren [0, 5, 6, 7] []] ⟨rfl, h⟩
     replace h := cond_f h hb98
     refine dr K [(2, .cl [] (some 14) [.lf (.v .bool y94)]), (4, .lit false), (7, .cl [] (some 19) [.lf (.v .bool y96)]), (10, .lit false), (13, .lit false)] [(2, 0), (4, 0), (7, 0), (10, 0), (13, 0)] [] [0, 5, 6, 7, 36] [] (tn 25) ⟨qC false [.t .str] [] [] (some 14) K (ok80 N _ hy94), qB 16 hb95 K trivial, qC false [.t (.int .i64), .t (.int .i64), .t (.int .i64)] [] [] (some 19) K (ok61 N _ _ _ hy96), qB 22 hb97 K trivial, qB 25 hb98 K trivial, trivial⟩ ?_
     refine VW.cond (b := false) (by kernel_rfl) (fun h' => nomatch h') (fun _ => ?_)
     refine VW.skip ?_
     exact arv [.ren [0, 5, 6, 7] []] ⟨rfl, h⟩
    rintro s ⟨rfl, h⟩
    unfold F37_j1 at h
    refine nE K (tn 2) ?_
    exact aro [.ren [0, 5, 6, 7] []] ⟨x67, (wr (x68 + (1 : Int))), rfl, h⟩
   refine VW.exit ?_
   exact arv [.ren [0] []] ⟨rfl, h⟩
 rintro s ⟨rfl, h⟩
 unfold F37_j0 at h
 refine nR K (tn 4) ?_
 cases h; exact VW.ret (rt [])
def F95_j0 (N : Nat) (x6 : Bool) : Option (Int) :=
  cond x6 (some (1 : Int)) (some (-1 : Int))
def F95_j1 (N : Nat) (a0 : Int) (x5 : Bool) : Option (Int) :=
  cond x5 (some (2 : Int)) (cond (a0 == (1 : Int)) (F95_j0 N (a0 == (1 : Int))) (cond (a0 == (2 : Int)) (F95_j0 N (a0 == (2 : Int))) (cond (a0 == (5 : Int)) (F95_j0 N (a0 == (5 : Int))) (cond (a0 == (6 : Int)) (F95_j0 N (a0 == (6 : Int))) (F95_j0 N (a0 == (7 : Int)))))))
def F95 (N : Nat) (a0 : Int) : Option (Int) :=
  cond (a0 == (0 : Int)) (some (0 : Int)) (cond (a0 == (3 : Int)) (F95_j1 N a0 (a0 == (3 : Int))) (F95_j1 N a0 (a0 == (4 : Int))))
theorem ok95 N a0 {r} (h : F95 N a0 = some r) : Con prog 95 [I a0] [.lf (.v (.int .i64) r)] := by
 refine ctr [.lf (.v (.int .i64))] K func95 rfl fun w0 E0 ht => ?_
 unfold F95 at h
 show VW _ _ _ _ _ (retQ _ _ _ _) _
 refine nR K (tn 1) <| sq <| nR K (tn 1) <| VW.block <| nR K (tn 2) ?_
 refine cnd h ?_ ?_<;>intro h
 ·refine nR K (tn 1) ?_
  cases h; exact VW.ret (rt [])
 refine VW.join (fun s => ∃ x5, s = ⟨[(3, I a0), (6, B x5)], []⟩ ∧ F95_j1 N a0 x5 = some r) ?_ ?_
 ·refine nR K (tn 2) ?_
  refine cnd h ?_ ?_<;>intro h
  ·refine VW.skip ?_
   exact arv [.ren [3, 6] []] ⟨(a0 == (3 : Int)), rfl, h⟩
  refine nE K (tn 2) ?_
  exact arv [.ren [3, 6] []] ⟨(a0 == (4 : Int)), rfl, h⟩
 rintro s ⟨x5, rfl, h⟩
 unfold F95_j1 at h
 refine cnd h ?_ ?_<;>intro h
 ·refine nR K (tn 1) ?_
  cases h; exact VW.ret (rt [])
 refine VW.join (fun s => ∃ x6, s = ⟨[(9, B x6)], []⟩ ∧ F95_j0 N x6 = some r) ?_ ?_
 ·refine nR K (tn 2) ?_
  refine cnd h ?_ ?_<;>intro h
  ·refine VW.skip ?_
   exact arv [.ren [9] []] ⟨(a0 == (1 : Int)), rfl, h⟩
  refine nR K (tn 2) ?_
  refine cnd h ?_ ?_<;>intro h
  ·refine VW.skip ?_
   exact arv [.ren [9] []] ⟨(a0 == (2 : Int)), rfl, h⟩
  refine nR K (tn 2) ?_
  refine cnd h ?_ ?_<;>intro h
  ·refine VW.skip ?_
   exact arv [.ren [9] []] ⟨(a0 == (5 : Int)), rfl, h⟩
  refine nR K (tn 2) ?_
  refine cnd h ?_ ?_<;>intro h
  ·refine VW.skip ?_
   exact arv [.ren [9] []] ⟨(a0 == (6 : Int)), rfl, h⟩
  refine nE K (tn 2) ?_
  exact arv [.ren [9] []] ⟨(a0 == (7 : Int)), rfl, h⟩
 rintro s ⟨x6, rfl, h⟩
 unfold F95_j0 at h
 refine cnd h ?_ ?_<;>intro h
 ·refine nR K (tn 1) ?_
  cases h; exact VW.ret (rt [])
 refine VW.skip <| nR K (tn 1) ?_
 cases h; exact VW.ret (rt [])
def F49_j0 (N : Nat) (x13 : Int) : Option (Int) :=
  some x13
def F49_l0_b (N : Nat) (a0 : (List Z73)) (a2 : Int) (self : (List Z73) → Int → Int → Option (Int)) (y16 : Int) (nx24 : Int → Int → Option (Int)) (x20 : Int) (x21 : Int) : Option (Int) :=
  cond (decide (x21 < y16)) (andO (self a0 x20 (IntKind.i64.wrap (a2 + (1 : Int)))) fun y26 => cond (decide (y26 < (0 : Int))) (some (-1 : Int)) (nx24 y26 (IntKind.i64.wrap (x21 + (1 : Int))))) (F49_j0 N x20)
def F49_l0 (N : Nat) (a0 : (List Z73)) (a2 : Int) (self : (List Z73) → Int → Int → Option (Int)) (y16 : Int) := loopF (F49_l0_b N a0 a2 self y16) (fun _ _ => none)
theorem F49_l0_s N a0 a2 (self : (List Z73) → Int → Int → Option (Int)) y16 {k} (hk : 0 < k) x20 x21 : F49_l0 N a0 a2 self y16 k x20 x21 = F49_l0_b N a0 a2 self y16 (F49_l0 N a0 a2 self y16 (k - 1)) x20 x21 := by cases k;cases hk;rfl
def F49_b (N : Nat) (self : (List Z73) → Int → Int → Option (Int)) (a0 : (List Z73)) (a1 : Int) (a2 : Int) : Option (Int) :=
  cond (decide (a1 ≥ (a0.length : Int))) (some (-1 : Int)) (cond (decide (a2 > (10 : Int))) (some (-1 : Int)) (gd (InR a1 a0.length) (andO (F95 N ((a0.getD a1.toNat (Ty.dflt Y73)).1)) fun y16 => F49_l0 N a0 a2 self y16 N (IntKind.i64.wrap (a1 + (1 : Int))) (0 : Int))))
theorem ok49_b (N : Nat) (self : (List Z73) → Int → Int → Option (Int)) (ih : ∀ (a0 : (List Z73)) (a1 : Int) (a2 : Int) (r : Int), self a0 a1 a2 = some r → Con prog 49 [Vv (.sl Y73) a0, I a1, I a2] [.lf (.v (.int .i64) r)]) (a0 : (List Z73)) (a1 : Int) (a2 : Int) {r : Int} (h : F49_b N self a0 a1 a2 = some r) : Con prog 49 [Vv (.sl Y73) a0, I a1, I a2] [.lf (.v (.int .i64) r)] := by
 refine ctr [.lf (.v (.int .i64))] K func49 rfl fun w0 E0 ht => ?_
 unfold F49_b at h
 show VW _ _ _ _ _ (retQ _ _ _ _) _
 refine nR K (tn 1) <| sq <| sq <| VW.region <| nG K 5 (tn 5) ?_
 refine spC 12 h ?_ ?_<;>intro h
 ·refine nN K (tn 3) ?_
  refine VW.cond (b := true) (by kernel_rfl) (fun _ => ?_) (fun h' => nomatch h')
  refine nR K (tn 1) ?_
  cases h; exact VW.ret (rt [])
 refine nN K (tn 3) ?_
 refine cnd h ?_ ?_<;>intro h
 ·refine nR K (tn 1) ?_
  cases h; exact VW.ret (rt [])
 refine VW.skip <| nR K (tn 3) ?_
 refine VW.join (fun s => ∃ x13, s = ⟨[(7, I x13)], []⟩ ∧ F49_j0 N x13 = some r) ?_ ?_
 ·refine sq <| VW.region ?_
  obtain⟨g15,h⟩:=gS h
  refine nG K 5 (pu 2 (an g15 (tn 2))) ?_
  obtain⟨y16,hy,h⟩:=aS h
  refine clc false [.t (.int .i64)] [] (some 23) K (ok95 N _ hy) <| nN K (tn 1) <| VW.block <| lop (fun k s => ∃ x20 x21, s = ⟨[(0, Vv (.sl Y73) a0), (2, I a2), (7, I x20), (23, I y16), (24, I x21)], []⟩ ∧ F49_l0 N a0 a2 self y16 k x20 x21 = some r) N [.ren [0, 2, 7, 23, 24] []] ⟨(wr (a1 + (1 : Int))), (0 : Int), rfl, h⟩ ?_
  rintro k24 s ⟨x20, x21, rfl, h⟩
  cases k24 with
  | zero => cases show none = some r from h
  | succ k24 =>
   replace h : F49_l0_b N a0 a2 self y16 (F49_l0 N a0 a2 self y16 k24) x20 x21 = some r := h
   unfold F49_l0_b at h
   refine nR K (tn 1) <| sq ?_
   refine cnd h ?_ ?_<;>intro h
   ·refine VW.skip <| sq <| VW.block <| sq <| VW.region <| nG K 4 (tn 4) ?_
    obtain⟨y26,hy,h⟩:=aS h
    refine clc false [.t (.sl Y73), .t (.int .i64), .t (.int .i64)] [] (some 30) K (ih _ _ _ _ hy) <| nN K (tn 1) <| nR K (tn 2) ?_
    refine cnd h ?_ ?_<;>intro h
    ·refine nR K (tn 1) ?_
     cases h; exact VW.ret (rt [])
    refine VW.skip <| nE K (tn 2) ?_
    exact aro [.ren [0, 2, 7, 23, 24] []] ⟨y26, (wr (x21 + (1 : Int))), rfl, h⟩
   refine VW.exit ?_
   exact arv [.ren [7] []] ⟨x20, rfl, h⟩
 rintro s ⟨x13, rfl, h⟩
 unfold F49_j0 at h
 refine nR K (tn 2) ?_
 cases h; exact VW.ret (rt [])
def F49_r (N : Nat) := loopF (F49_b N) (fun _ _ _ => none)
theorem F49_s N {k} (hk : 0 < k) a0 a1 a2 : F49_r N k a0 a1 a2 = F49_b N (F49_r N (k - 1)) a0 a1 a2 := by cases k;cases hk;rfl
def F49 (N : Nat) : (List Z73) → Int → Int → Option (Int) := F49_r N N
theorem ok49_k (N : Nat) : ∀ (k : Nat) (a0 : (List Z73)) (a1 : Int) (a2 : Int) (r : Int), loopF (F49_b N) (fun _ _ _ => none) k a0 a1 a2 = some r → Con prog 49 [Vv (.sl Y73) a0, I a1, I a2] [.lf (.v (.int .i64) r)]
 | 0, a0, a1, a2, r, h => nomatch (show (none : Option (Int)) = some r from h)
 | k + 1, a0, a1, a2, r, h => ok49_b N _ (ok49_k N k) a0 a1 a2 h
theorem ok49 N a0 a1 a2 {r} (h : F49 N a0 a1 a2 = some r) : Con prog 49 [Vv (.sl Y73) a0, I a1, I a2] [.lf (.v (.int .i64) r)] := ok49_k N N a0 a1 a2 r h
def F116_j0 (N : Nat) : Option (Int) :=
  some (-1 : Int)
def F116_l0_b (N : Nat) (a0 : (List Z73)) (p1 : Z73 → Option (Bool)) (nx29 : Int → Int → Option (Int)) (x23 : Int) (x24 : Int) : Option (Int) :=
  cond (decide (x24 < x23)) (gd (InR x24 a0.length) (andO (p1 (a0.getD x24.toNat (Ty.dflt Y73))) fun y33 => cond y33 (some x24) (nx29 x23 (IntKind.i64.wrap (x24 + (1 : Int)))))) (F116_j0 N)
def F116_l0 (N : Nat) (a0 : (List Z73)) (p1 : Z73 → Option (Bool)) := loopF (F116_l0_b N a0 p1) (fun _ _ => none)
theorem F116_l0_s N a0 (p1 : Z73 → Option (Bool)) {k} (hk : 0 < k) x23 x24 : F116_l0 N a0 p1 k x23 x24 = F116_l0_b N a0 p1 (F116_l0 N a0 p1 (k - 1)) x23 x24 := by cases k;cases hk;rfl
def F116 (N : Nat) (a0 : (List Z73)) (p1 : Z73 → Option (Bool)) : Option (Int) :=
  F116_l0 N a0 p1 N (a0.length : Int) (0 : Int)
theorem ok116 N a0 (g1 : FuncId) (p1 : Z73 → Option (Bool)) (hp1 : ∀ (z0 : Z73) (r : Bool), p1 z0 = some r → Con prog g1 [.agg (lv Y73 z0)] [.lf (.v .bool r)]) {r} (h : F116 N a0 p1 = some r) : Con prog 116 [Vv (.sl Y73) a0, .clo g1 []] [.lf (.v (.int .i64) r)] := by
 refine ctr [.lf (.v (.int .i64))] K func116 rfl fun w0 E0 ht => ?_
 unfold F116 at h
 show VW _ _ _ _ _ (retQ _ _ _ _) _
 refine nR K (tn 1) ?_
 refine VW.join (fun s => s = ⟨[], []⟩ ∧ F116_j0 N = some r) ?_ ?_
 ·refine nR K (tn 3) <| VW.block <| lop (fun k s => ∃ x23 x24, s = ⟨[(0, Vv (.sl Y73) a0), (1, .clo g1 []), (7, I x23), (8, I x24)], []⟩ ∧ F116_l0 N a0 p1 k x23 x24 = some r) N [.ren [0, 1, 7, 8] []] ⟨(a0.length : Int), (0 : Int), rfl, h⟩ ?_
  rintro k29 s ⟨x23, x24, rfl, h⟩
  cases k29 with
  | zero => cases show none = some r from h
  | succ k29 =>
   replace h : F116_l0_b N a0 p1 (F116_l0 N a0 p1 k29) x23 x24 = some r := h
   unfold F116_l0_b at h
   refine nR K (tn 1) <| sq ?_
   refine cnd h ?_ ?_<;>intro h
   ·refine VW.skip <| sq <| VW.block <| nR K (tn 2) <| sq <| VW.region ?_
    obtain⟨g32,h⟩:=gS h
    refine nG K 5 (pu 3 (an g32 (tn 1))) ?_
    obtain⟨y33,hy,h⟩:=aS h
    refine clc false [.t Y73] [] (some 16) K (hp1 _ _ hy) <| nN K (tn 0) ?_
    refine cnd h ?_ ?_<;>intro h
    ·refine nR K (tn 2) ?_
     cases h; exact VW.ret (rt [])
    refine VW.skip <| nE K (tn 2) ?_
    exact aro [.ren [0, 1, 7, 8] []] ⟨x23, (wr (x24 + (1 : Int))), rfl, h⟩
   refine VW.exit ?_
   exact arv [.ren [] []] ⟨rfl, h⟩
 rintro s ⟨rfl, h⟩
 unfold F116_j0 at h
 refine nR K (tn 1) ?_
 cases h; exact VW.ret (rt [])
def F81 (N : Nat) (a0 : (List Z73)) (p1 : Z73 → Option (Bool)) : Option (Bool) :=
  andO (F116 N a0 p1) fun y1 => some (decide (y1 ≥ (0 : Int)))
theorem ok81 N a0 (g1 : FuncId) (p1 : Z73 → Option (Bool)) (hp1 : ∀ (z0 : Z73) (r : Bool), p1 z0 = some r → Con prog g1 [.agg (lv Y73 z0)] [.lf (.v .bool r)]) {r} (h : F81 N a0 p1 = some r) : Con prog 81 [Vv (.sl Y73) a0, .clo g1 []] [.lf (.v .bool r)] := by
 refine ctr [.lf (.v .bool)] K func81 rfl fun w0 E0 ht => ?_
 unfold F81 at h
 show VW _ _ _ _ _ (retQ _ _ _ _) _
 refine nR K (tn 1) <| sq <| VW.region <| nG K 2 (tn 2) ?_
 obtain⟨y1,hy,h⟩:=aS h
 refine clc false [.t (.sl Y73), .clo []] [] (some 7) K (ok116 N _ g1  p1 hp1 hy) <| nN K (tn 2) ?_
 cases h; exact VW.ret (rt [])
def F113_j0 (N : Nat) : Option (Bool) :=
  some true
def F113_l0_b (N : Nat) (a0 : (List Int)) (a1 : (List Int)) (nx29 : Int → Int → Option (Bool)) (x23 : Int) (x24 : Int) : Option (Bool) :=
  cond (decide (x24 < x23)) (gd (InR x24 a0.length) (gd (InR x24 a1.length) (cond ((a0.getD x24.toNat (Ty.dflt (.int .i64))) != (a1.getD x24.toNat (Ty.dflt (.int .i64)))) (some false) (nx29 x23 (IntKind.i64.wrap (x24 + (1 : Int))))))) (F113_j0 N)
def F113_l0 (N : Nat) (a0 : (List Int)) (a1 : (List Int)) := loopF (F113_l0_b N a0 a1) (fun _ _ => none)
theorem F113_l0_s N a0 a1 {k} (hk : 0 < k) x23 x24 : F113_l0 N a0 a1 k x23 x24 = F113_l0_b N a0 a1 (F113_l0 N a0 a1 (k - 1)) x23 x24 := by cases k;cases hk;rfl
def F113 (N : Nat) (a0 : (List Int)) (a1 : (List Int)) : Option (Bool) :=
  cond ((a0.length : Int) != (a1.length : Int)) (some false) (F113_l0 N a0 a1 N (a0.length : Int) (0 : Int))
theorem ok113 N a0 a1 {r} (h : F113 N a0 a1 = some r) : Con prog 113 [Vv (.sl (.int .i64)) a0, Vv (.sl (.int .i64)) a1] [.lf (.v .bool r)] := by
 refine ctr [.lf (.v .bool)] K func113 rfl fun w0 E0 ht => ?_
 unfold F113 at h
 show VW _ _ _ _ _ (retQ _ _ _ _) _
 refine nR K (tn 1) <| sq <| nR K (tn 5) ?_
 refine cnd h ?_ ?_<;>intro h
 ·refine nR K (tn 1) ?_
  cases h; exact VW.ret (rt [])
 refine VW.skip ?_
 refine VW.join (fun s => s = ⟨[], []⟩ ∧ F113_j0 N = some r) ?_ ?_
 ·refine nR K (tn 3) <| VW.block <| lop (fun k s => ∃ x23 x24, s = ⟨[(0, Vv (.sl (.int .i64)) a0), (1, Vv (.sl (.int .i64)) a1), (12, I x23), (13, I x24)], []⟩ ∧ F113_l0 N a0 a1 k x23 x24 = some r) N [.ren [0, 1, 12, 13] []] ⟨(a0.length : Int), (0 : Int), rfl, h⟩ ?_
  rintro k29 s ⟨x23, x24, rfl, h⟩
  cases k29 with
  | zero => cases show none = some r from h
  | succ k29 =>
   replace h : F113_l0_b N a0 a1 (F113_l0 N a0 a1 k29) x23 x24 = some r := h
   unfold F113_l0_b at h
   refine nR K (tn 1) <| sq ?_
   refine cnd h ?_ ?_<;>intro h
   ·refine VW.skip <| sq <| VW.block <| nR K (tn 2) <| sq ?_
    obtain⟨g32,h⟩:=gS h
    obtain⟨g33,h⟩:=gS h
    refine dr K [] [] [] [0, 1, 12, 13, 24] [] (pu 2 (an g32 (pu 3 (an g33 (tn 2))))) trivial ?_
    refine cnd h ?_ ?_<;>intro h
    ·refine nR K (tn 1) ?_
     cases h; exact VW.ret (rt [])
    refine VW.skip <| nE K (tn 2) ?_
    exact aro [.ren [0, 1, 12, 13] []] ⟨x23, (wr (x24 + (1 : Int))), rfl, h⟩
   refine VW.exit ?_
   exact arv [.ren [] []] ⟨rfl, h⟩
 rintro s ⟨rfl, h⟩
 unfold F113_j0 at h
 refine nR K (tn 1) ?_
 cases h; exact VW.ret (rt [])
def F72 (N : Nat) (a0 : Z73) (a1 : Z73) : Option (Bool) :=
  cond (a0.1 == a1.1) (cond (a0.2.1.toList == a1.2.1.toList) (cond (a0.2.2.1 == a1.2.2.1) (cond (a0.2.2.2.1 == a1.2.2.2.1) (cond (a0.2.2.2.2.1 == a1.2.2.2.2.1) (cond (a0.2.2.2.2.2.1 == a1.2.2.2.2.2.1) (andO (F113 N a0.2.2.2.2.2.2 a1.2.2.2.2.2.2) fun y1 => some y1) (some false)) (some false)) (some false)) (some false)) (some false)) (some false)
theorem ok72 N a0 a1 {r} (h : F72 N a0 a1 = some r) : Con prog 72 [.agg (lv Y73 a0), .agg (lv Y73 a1)] [.lf (.v .bool r)] := by
 refine ctr [.lf (.v .bool)] K func72 rfl fun w0 E0 ht => ?_
 unfold F72 at h
 show VW _ _ _ _ _ (retQ _ _ _ _) _
 refine nR K (tn 3) <| sq <| VW.region <| nG K 6 (tn 6) ?_
 refine spC 10 h ?_ ?_<;>intro h
 ·refine nG K 7 (tn 7) ?_
  refine spC 17 h ?_ ?_<;>intro h
  ·refine nG K 7 (tn 7) ?_
   refine spC 24 h ?_ ?_<;>intro h
   ·refine nG K 7 (tn 7) ?_
    refine spC 31 h ?_ ?_<;>intro h
    ·refine nG K 7 (tn 7) ?_
     refine spC 38 h ?_ ?_<;>intro h
     ·refine nG K 7 (tn 7) ?_
      refine spC 45 h ?_ ?_<;>intro h
      ·refine nG K 4 (tn 4) <| VO.on (j := 40) (want := true) (d := 45) (b := true) rfl rfl rfl (by kernel_rfl) rfl ?_
       obtain⟨y1,hy,h⟩:=aS h
       refine clc false [.t (.sl (.int .i64)), .t (.sl (.int .i64))] [] (some 50) K (ok113 N _ _ hy) <| nN K (tn 2) ?_
       cases h; exact VW.ret (rt [])
      refine nN K (tn 7) ?_
      cases h; exact VW.ret (rt [])
     refine nN K (tn 14) ?_
     cases h; exact VW.ret (rt [])
    refine nN K (tn 21) ?_
    cases h; exact VW.ret (rt [])
   refine nN K (tn 28) ?_
   cases h; exact VW.ret (rt [])
  refine nN K (tn 35) ?_
  cases h; exact VW.ret (rt [])
 refine nN K (tn 42) ?_
 cases h; exact VW.ret (rt [])
def F101 (N : Nat) (a0 : Int) : Option (Bool) :=
  andO (F61 N a0 (-1000000 : Int) (1000000 : Int)) fun y1 => some y1
theorem ok101 N a0 {r} (h : F101 N a0 = some r) : Con prog 101 [I a0] [.lf (.v .bool r)] := by
 refine ctr [.lf (.v .bool)] K func101 rfl fun w0 E0 ht => ?_
 unfold F101 at h
 show VW _ _ _ _ _ (retQ _ _ _ _) _
 refine nR K (tn 1) <| sq <| VW.region <| nG K 1 (tn 1) ?_
 obtain⟨y1,hy,h⟩:=aS h
 refine clc false [.t (.int .i64), .t (.int .i64), .t (.int .i64)] [] (some 4) K (ok61 N _ _ _ hy) <| nN K (tn 1) ?_
 cases h; exact VW.ret (rt [])
def F117 (N : Nat) (a0 : Int) : Option (Bool) :=
  andO (F61 N a0 (0 : Int) (63 : Int)) fun y1 => some y1
theorem ok117 N a0 {r} (h : F117 N a0 = some r) : Con prog 117 [I a0] [.lf (.v .bool r)] := by
 refine ctr [.lf (.v .bool)] K func117 rfl fun w0 E0 ht => ?_
 unfold F117 at h
 show VW _ _ _ _ _ (retQ _ _ _ _) _
 refine nR K (tn 1) <| sq <| VW.region <| nG K 1 (tn 1) ?_
 obtain⟨y1,hy,h⟩:=aS h
 refine clc false [.t (.int .i64), .t (.int .i64), .t (.int .i64)] [] (some 4) K (ok61 N _ _ _ hy) <| nN K (tn 1) ?_
 cases h; exact VW.ret (rt [])
def F118 (N : Nat) (a0 : Int) : Option (Bool) :=
  andO (F61 N a0 (0 : Int) (39 : Int)) fun y1 => some y1
theorem ok118 N a0 {r} (h : F118 N a0 = some r) : Con prog 118 [I a0] [.lf (.v .bool r)] := by
 refine ctr [.lf (.v .bool)] K func118 rfl fun w0 E0 ht => ?_
 unfold F118 at h
 show VW _ _ _ _ _ (retQ _ _ _ _) _
 refine nR K (tn 1) <| sq <| VW.region <| nG K 1 (tn 1) ?_
 obtain⟨y1,hy,h⟩:=aS h
 refine clc false [.t (.int .i64), .t (.int .i64), .t (.int .i64)] [] (some 4) K (ok61 N _ _ _ hy) <| nN K (tn 1) ?_
 cases h; exact VW.ret (rt [])
def F138_j0 (N : Nat) : Option (Int) :=
  some (-1 : Int)
def F138_l0_b (N : Nat) (a0 : (List Int)) (p1 : Int → Option (Bool)) (nx29 : Int → Int → Option (Int)) (x23 : Int) (x24 : Int) : Option (Int) :=
  cond (decide (x24 < x23)) (gd (InR x24 a0.length) (andO (p1 (a0.getD x24.toNat (Ty.dflt (.int .i64)))) fun y33 => cond y33 (some x24) (nx29 x23 (IntKind.i64.wrap (x24 + (1 : Int)))))) (F138_j0 N)
def F138_l0 (N : Nat) (a0 : (List Int)) (p1 : Int → Option (Bool)) := loopF (F138_l0_b N a0 p1) (fun _ _ => none)
theorem F138_l0_s N a0 (p1 : Int → Option (Bool)) {k} (hk : 0 < k) x23 x24 : F138_l0 N a0 p1 k x23 x24 = F138_l0_b N a0 p1 (F138_l0 N a0 p1 (k - 1)) x23 x24 := by cases k;cases hk;rfl
def F138 (N : Nat) (a0 : (List Int)) (p1 : Int → Option (Bool)) : Option (Int) :=
  F138_l0 N a0 p1 N (a0.length : Int) (0 : Int)
theorem ok138 N a0 (g1 : FuncId) (p1 : Int → Option (Bool)) (hp1 : ∀ (z0 : Int) (r : Bool), p1 z0 = some r → Con prog g1 [I z0] [.lf (.v .bool r)]) {r} (h : F138 N a0 p1 = some r) : Con prog 138 [Vv (.sl (.int .i64)) a0, .clo g1 []] [.lf (.v (.int .i64) r)] := by
 refine ctr [.lf (.v (.int .i64))] K func138 rfl fun w0 E0 ht => ?_
 unfold F138 at h
 show VW _ _ _ _ _ (retQ _ _ _ _) _
 refine nR K (tn 1) ?_
 refine VW.join (fun s => s = ⟨[], []⟩ ∧ F138_j0 N = some r) ?_ ?_
 ·refine nR K (tn 3) <| VW.block <| lop (fun k s => ∃ x23 x24, s = ⟨[(0, Vv (.sl (.int .i64)) a0), (1, .clo g1 []), (7, I x23), (8, I x24)], []⟩ ∧ F138_l0 N a0 p1 k x23 x24 = some r) N [.ren [0, 1, 7, 8] []] ⟨(a0.length : Int), (0 : Int), rfl, h⟩ ?_
  rintro k29 s ⟨x23, x24, rfl, h⟩
  cases k29 with
  | zero => cases show none = some r from h
  | succ k29 =>
   replace h : F138_l0_b N a0 p1 (F138_l0 N a0 p1 k29) x23 x24 = some r := h
   unfold F138_l0_b at h
   refine nR K (tn 1) <| sq ?_
   refine cnd h ?_ ?_<;>intro h
   ·refine VW.skip <| sq <| VW.block <| nR K (tn 2) <| sq <| VW.region ?_
    obtain⟨g32,h⟩:=gS h
    refine nG K 5 (pu 3 (an g32 (tn 1))) ?_
    obtain⟨y33,hy,h⟩:=aS h
    refine clc false [.t (.int .i64)] [] (some 16) K (hp1 _ _ hy) <| nN K (tn 0) ?_
    refine cnd h ?_ ?_<;>intro h
    ·refine nR K (tn 2) ?_
     cases h; exact VW.ret (rt [])
    refine VW.skip <| nE K (tn 2) ?_
    exact aro [.ren [0, 1, 7, 8] []] ⟨x23, (wr (x24 + (1 : Int))), rfl, h⟩
   refine VW.exit ?_
   exact arv [.ren [] []] ⟨rfl, h⟩
 rintro s ⟨rfl, h⟩
 unfold F138_j0 at h
 refine nR K (tn 1) ?_
 cases h; exact VW.ret (rt [])
def F119 (N : Nat) (a0 : (List Int)) (p1 : Int → Option (Bool)) : Option (Bool) :=
  andO (F138 N a0 p1) fun y1 => some (decide (y1 ≥ (0 : Int)))
theorem ok119 N a0 (g1 : FuncId) (p1 : Int → Option (Bool)) (hp1 : ∀ (z0 : Int) (r : Bool), p1 z0 = some r → Con prog g1 [I z0] [.lf (.v .bool r)]) {r} (h : F119 N a0 p1 = some r) : Con prog 119 [Vv (.sl (.int .i64)) a0, .clo g1 []] [.lf (.v .bool r)] := by
 refine ctr [.lf (.v .bool)] K func119 rfl fun w0 E0 ht => ?_
 unfold F119 at h
 show VW _ _ _ _ _ (retQ _ _ _ _) _
 refine nR K (tn 1) <| sq <| VW.region <| nG K 2 (tn 2) ?_
 obtain⟨y1,hy,h⟩:=aS h
 refine clc false [.t (.sl (.int .i64)), .clo []] [] (some 7) K (ok138 N _ g1  p1 hp1 hy) <| nN K (tn 2) ?_
 cases h; exact VW.ret (rt [])
def F120 (N : Nat) (a0 : Int) : Option (Bool) :=
  andO (F117 N a0) fun y1 => some (!y1)
theorem ok120 N a0 {r} (h : F120 N a0 = some r) : Con prog 120 [I a0] [.lf (.v .bool r)] := by
 refine ctr [.lf (.v .bool)] K func120 rfl fun w0 E0 ht => ?_
 unfold F120 at h
 show VW _ _ _ _ _ (retQ _ _ _ _) _
 refine nR K (tn 1) <| sq <| VW.region <| nG K 1 (tn 1) ?_
 obtain⟨y1,hy,h⟩:=aS h
 refine clc false [.t (.int .i64)] [] (some 4) K (ok117 N _ hy) <| nN K (tn 2) ?_
 cases h; exact VW.ret (rt [])
def F83_j0 (N : Nat) (x38 : ByteArray) (x39 : Int) (x40 : Int) (x41 : Int) (x42 : Bool) (x43 : (List Int)) (x44 : Bool) : Option (Bool) :=
  cond x44 (andO (F72 N ((0 : Int), (x38, (x39, (x40, (x41, (x42, x43)))))) ((0 : Int), (ByteArray.empty, ((0 : Int), ((0 : Int), ((0 : Int), (false, []))))))) fun y45 => some y45) (some false)
def F83_j1 (N : Nat) (x52 : ByteArray) (x53 : Int) (x54 : Int) (x55 : Int) (x56 : Bool) (x57 : (List Int)) (x58 : Bool) : Option (Bool) :=
  F83_j0 N x52 (0 : Int) (0 : Int) (0 : Int) false x57 x58
def F83_j2 (N : Nat) (x62 : ByteArray) (x63 : Int) (x64 : Int) (x65 : Int) (x66 : Bool) (x67 : (List Int)) : Option (Bool) :=
  F83_j0 N x62 (0 : Int) (0 : Int) (0 : Int) false x67 false
def F83_j3 (N : Nat) (x76 : ByteArray) (x77 : Int) (x78 : Int) (x79 : Int) (x80 : Bool) (x81 : (List Int)) (x82 : Bool) : Option (Bool) :=
  cond x82 (F83_j0 N x76 x77 x78 x79 x80 x81 true) (F83_j0 N x76 x77 x78 x79 x80 x81 false)
def F83 (N : Nat) (a0 : Z73) : Option (Bool) :=
  cond (a0.1 == (0 : Int)) (andO (F80 N a0.2.1) fun y47 => F83_j0 N ByteArray.empty a0.2.2.1 a0.2.2.2.1 a0.2.2.2.2.1 a0.2.2.2.2.2.1 a0.2.2.2.2.2.2 y47) (cond (a0.1 == (1 : Int)) (andO (F117 N a0.2.2.1) fun y48 => cond y48 (andO (F61 N a0.2.2.2.1 (0 : Int) (3 : Int)) fun y49 => cond (a0.2.2.2.1 == (3 : Int)) (cond y49 (cond (a0.2.2.2.2.1 == (0 : Int)) (F83_j1 N a0.2.1 a0.2.2.1 a0.2.2.2.1 a0.2.2.2.2.1 a0.2.2.2.2.2.1 a0.2.2.2.2.2.2 (!a0.2.2.2.2.2.1)) (F83_j1 N a0.2.1 a0.2.2.1 a0.2.2.2.1 a0.2.2.2.2.1 a0.2.2.2.2.2.1 a0.2.2.2.2.2.2 false)) (F83_j1 N a0.2.1 a0.2.2.1 a0.2.2.2.1 a0.2.2.2.2.1 a0.2.2.2.2.2.1 a0.2.2.2.2.2.2 false)) (cond a0.2.2.2.2.2.1 (cond y49 (andO (F118 N a0.2.2.2.2.1) fun y60 => F83_j1 N a0.2.1 a0.2.2.1 a0.2.2.2.1 a0.2.2.2.2.1 a0.2.2.2.2.2.1 a0.2.2.2.2.2.2 y60) (F83_j1 N a0.2.1 a0.2.2.1 a0.2.2.2.1 a0.2.2.2.2.1 a0.2.2.2.2.2.1 a0.2.2.2.2.2.2 false)) (cond y49 (andO (F101 N a0.2.2.2.2.1) fun y61 => F83_j1 N a0.2.1 a0.2.2.1 a0.2.2.2.1 a0.2.2.2.2.1 a0.2.2.2.2.2.1 a0.2.2.2.2.2.2 y61) (F83_j1 N a0.2.1 a0.2.2.1 a0.2.2.2.1 a0.2.2.2.2.1 a0.2.2.2.2.2.1 a0.2.2.2.2.2.2 false)))) (cond (a0.2.2.2.1 == (3 : Int)) (F83_j2 N a0.2.1 a0.2.2.1 a0.2.2.2.1 a0.2.2.2.2.1 a0.2.2.2.2.2.1 a0.2.2.2.2.2.2) (cond a0.2.2.2.2.2.1 (F83_j2 N a0.2.1 a0.2.2.1 a0.2.2.2.1 a0.2.2.2.2.1 a0.2.2.2.2.2.1 a0.2.2.2.2.2.2) (F83_j2 N a0.2.1 a0.2.2.1 a0.2.2.2.1 a0.2.2.2.2.1 a0.2.2.2.2.2.1 a0.2.2.2.2.2.2)))) (cond (a0.1 == (2 : Int)) (andO (F61 N (a0.2.2.2.2.2.2.length : Int) (1 : Int) (6 : Int)) fun y69 => cond y69 (andO (F119 N a0.2.2.2.2.2.2 (fun z0 => F120 N z0)) fun y70 => F83_j0 N a0.2.1 a0.2.2.1 a0.2.2.2.1 a0.2.2.2.2.1 a0.2.2.2.2.2.1 ([]) (!y70)) (F83_j0 N a0.2.1 a0.2.2.1 a0.2.2.2.1 a0.2.2.2.2.1 a0.2.2.2.2.2.1 ([]) false)) (cond (a0.1 == (3 : Int)) (andO (F117 N a0.2.2.1) fun y71 => cond y71 (andO (F117 N a0.2.2.2.2.1) fun y72 => F83_j0 N a0.2.1 (0 : Int) a0.2.2.2.1 (0 : Int) a0.2.2.2.2.2.1 a0.2.2.2.2.2.2 y72) (F83_j0 N a0.2.1 (0 : Int) a0.2.2.2.1 (0 : Int) a0.2.2.2.2.2.1 a0.2.2.2.2.2.2 false)) (cond (a0.1 == (5 : Int)) (andO (F117 N a0.2.2.1) fun y73 => F83_j0 N a0.2.1 (0 : Int) a0.2.2.2.1 a0.2.2.2.2.1 a0.2.2.2.2.2.1 a0.2.2.2.2.2.2 y73) (cond (a0.1 == (6 : Int)) (andO (F61 N a0.2.2.2.2.1 (0 : Int) (1000000 : Int)) fun y74 => cond y74 (cond (!a0.2.2.2.2.2.1) (F83_j0 N a0.2.1 a0.2.2.1 a0.2.2.2.1 (0 : Int) false a0.2.2.2.2.2.2 true) (andO (F118 N a0.2.2.2.2.1) fun y75 => F83_j0 N a0.2.1 a0.2.2.1 a0.2.2.2.1 (0 : Int) false a0.2.2.2.2.2.2 y75)) (F83_j0 N a0.2.1 a0.2.2.1 a0.2.2.2.1 (0 : Int) false a0.2.2.2.2.2.2 false)) (cond (a0.1 == (4 : Int)) (F83_j3 N a0.2.1 a0.2.2.1 a0.2.2.2.1 a0.2.2.2.2.1 a0.2.2.2.2.2.1 a0.2.2.2.2.2.2 (a0.1 == (4 : Int))) (F83_j3 N a0.2.1 a0.2.2.1 a0.2.2.2.1 a0.2.2.2.2.1 a0.2.2.2.2.2.1 a0.2.2.2.2.2.2 (a0.1 == (7 : Int)))))))))
theorem ok83 N a0 {r} (h : F83 N a0 = some r) : Con prog 83 [.agg (lv Y73 a0)] [.lf (.v .bool r)] := by
 refine ctr [.lf (.v .bool)] K func83 rfl fun w0 E0 ht => ?_
 unfold F83 at h
 show VW _ _ _ _ _ (retQ _ _ _ _) _
 refine nR K (tn 2) <| nR K (tn 3) <| nR K (tn 2) <| nR K (tn 1) ?_
 refine VW.join (fun s => ∃ x38 x39 x40 x41 x42 x43 x44, s = ⟨[(3, .lf (.ptr 0 0 0 0)), (4, B x44)], [bx [zi (0 : Int), zs x38, zi x39, zi x40, zi x41, zb x42, .v (.sl (.int .i64)) x43] 74]⟩ ∧ F83_j0 N x38 x39 x40 x41 x42 x43 x44 = some r) ?_ ?_
 ·refine nR K (tn 2) <| VW.block <| nR K (tn 2) ?_
  refine cnd h ?_ ?_<;>intro h
  ·refine sq <| VW.region <| nG K 2 (tn 2) ?_
   obtain⟨y47,hy,h⟩:=aS h
   refine clc false [.t .str] [] (some 13) K (ok80 N _ hy) <| nN K (tn 1) <| nE K (tn 2) ?_
   exact arv [.ren [3, 4] [1]] ⟨ByteArray.empty, a0.2.2.1, a0.2.2.2.1, a0.2.2.2.2.1, a0.2.2.2.2.2.1, a0.2.2.2.2.2.2, y47, rfl, h⟩
  refine nR K (tn 2) ?_
  refine cnd h ?_ ?_<;>intro h
  ·refine sq <| VW.region <| nG K 2 (tn 2) ?_
   obtain⟨y48,hy,h⟩:=aS h
   refine clc false [.t (.int .i64)] [] (some 19) K (ok117 N _ hy) <| nG K 1 (tn 1) ?_
   refine spC 20 h ?_ ?_<;>intro h
   ·refine nG K 2 (tn 2) <| VO.on (j := 3) (want := true) (d := 20) (b := true) rfl rfl rfl (by kernel_rfl) rfl ?_
    obtain⟨y49,hy,h⟩:=aS h
    refine clc false [.t (.int .i64), .t (.int .i64), .t (.int .i64)] [] (some 23) K (ok61 N _ _ _ hy) <| nN K (tn 2) ?_
    refine VW.join (fun s => ∃ x52 x53 x54 x55 x56 x57 x58, s = ⟨[(3, .lf (.ptr 0 0 0 0)), (4, B x58)], [bx [zi (0 : Int), zs x52, zi x53, zi x54, zi x55, zb x56, .v (.sl (.int .i64)) x57] 74]⟩ ∧ F83_j1 N x52 x53 x54 x55 x56 x57 x58 = some r) ?_ ?_
    ·refine VW.block <| nR K (tn 4) ?_
     refine cnd h ?_ ?_<;>intro h
     ·refine VW.region <| sGh K 2 [1, 3, 36] [0, 1] [(1, .lf (.ptr 0 0 0 0)), (3, .lf (.ptr 1 0 0 0)), (36, B y49)] (tn 2) ?_
      refine spC 36 h ?_ ?_<;>intro h
      ·refine nG K 5 (tn 5) ?_
       refine spC 41 h ?_ ?_<;>intro h
       ·refine nN K (tn 5) ?_
        exact arv [.ren [3, 4] [1]] ⟨a0.2.1, a0.2.2.1, a0.2.2.2.1, a0.2.2.2.2.1, a0.2.2.2.2.2.1, a0.2.2.2.2.2.2, (!a0.2.2.2.2.2.1), rfl, h⟩
       refine nN K (tn 5) ?_
       exact arv [.ren [3, 4] [1]] ⟨a0.2.1, a0.2.2.1, a0.2.2.2.1, a0.2.2.2.2.1, a0.2.2.2.2.2.1, a0.2.2.2.2.2.2, false, rfl, h⟩
      refine nN K (tn 10) ?_
      exact arv [.ren [3, 4] [1]] ⟨a0.2.1, a0.2.2.1, a0.2.2.2.1, a0.2.2.2.2.1, a0.2.2.2.2.2.1, a0.2.2.2.2.2.2, false, rfl, h⟩
     refine sRh K [1, 3, 4, 46] [0, 1] [(1, .lf (.ptr 0 0 0 0)), (3, .lf (.ptr 1 0 0 0)), (4, B y49), (46, B a0.2.2.2.2.2.1)] (tn 3) ?_
     refine cnd h ?_ ?_<;>intro h
     ·refine VW.region <| nG K 2 (tn 2) ?_
      refine spC 50 h ?_ ?_<;>intro h
      ·refine nG K 2 (tn 2) <| VO.on (j := 1) (want := true) (d := 50) (b := true) rfl rfl rfl (by kernel_rfl) rfl ?_
       obtain⟨y60,hy,h⟩:=aS h
       refine clc false [.t (.int .i64)] [] (some 53) K (ok118 N _ hy) <| nN K (tn 2) ?_
       exact arv [.ren [3, 4] [1]] ⟨a0.2.1, a0.2.2.1, a0.2.2.2.1, a0.2.2.2.2.1, a0.2.2.2.2.2.1, a0.2.2.2.2.2.2, y60, rfl, h⟩
      refine nN K (tn 5) ?_
      exact arv [.ren [3, 4] [1]] ⟨a0.2.1, a0.2.2.1, a0.2.2.2.1, a0.2.2.2.2.1, a0.2.2.2.2.2.1, a0.2.2.2.2.2.2, false, rfl, h⟩
     refine VW.region <| nG K 2 (tn 2) ?_
     refine spC 26 h ?_ ?_<;>intro h
     ·refine nG K 2 (tn 2) <| VO.on (j := 1) (want := true) (d := 26) (b := true) rfl rfl rfl (by kernel_rfl) rfl ?_
      obtain⟨y61,hy,h⟩:=aS h
      refine clc false [.t (.int .i64)] [] (some 29) K (ok101 N _ hy) <| nN K (tn 2) ?_
      exact arv [.ren [3, 4] [1]] ⟨a0.2.1, a0.2.2.1, a0.2.2.2.1, a0.2.2.2.2.1, a0.2.2.2.2.2.1, a0.2.2.2.2.2.2, y61, rfl, h⟩
     refine nN K (tn 5) ?_
     exact arv [.ren [3, 4] [1]] ⟨a0.2.1, a0.2.2.1, a0.2.2.2.1, a0.2.2.2.2.1, a0.2.2.2.2.2.1, a0.2.2.2.2.2.2, false, rfl, h⟩
    rintro s ⟨x52, x53, x54, x55, x56, x57, x58, rfl, h⟩
    unfold F83_j1 at h
    refine nE K (tn 8) ?_
    exact arv [.ren [3, 4] [0]] ⟨x52, (0 : Int), (0 : Int), (0 : Int), false, x57, x58, rfl, h⟩
   refine nN K (tn 5) ?_
   refine VW.join (fun s => ∃ x62 x63 x64 x65 x66 x67, s = ⟨[(3, .lf (.ptr 0 0 0 0)), (4, B false)], [bx [zi (0 : Int), zs x62, zi x63, zi x64, zi x65, zb x66, .v (.sl (.int .i64)) x67] 74]⟩ ∧ F83_j2 N x62 x63 x64 x65 x66 x67 = some r) ?_ ?_
   ·refine VW.block <| nR K (tn 4) ?_
    refine cnd h ?_ ?_<;>intro h
    ·refine nE K (tn 12) ?_
     exact arv [.ren [3, 4] [1]] ⟨a0.2.1, a0.2.2.1, a0.2.2.2.1, a0.2.2.2.2.1, a0.2.2.2.2.2.1, a0.2.2.2.2.2.2, rfl, h⟩
    refine nR K (tn 3) ?_
    refine cnd h ?_ ?_<;>intro h
    ·refine rR K [3, 4] [1] ⟨[(3, .lf (.ptr 0 0 0 0)), (4, B false)], [bx [zi (0 : Int), zs a0.2.1, zi a0.2.2.1, zi a0.2.2.2.1, zi a0.2.2.2.2.1, zb a0.2.2.2.2.2.1, .v (.sl (.int .i64)) a0.2.2.2.2.2.2] 74]⟩ (tn 7) ?_
     exact arv [.ren [3, 4] [0]] ⟨a0.2.1, a0.2.2.1, a0.2.2.2.1, a0.2.2.2.2.1, a0.2.2.2.2.2.1, a0.2.2.2.2.2.2, rfl, h⟩
    refine rR K [3, 4] [1] ⟨[(3, .lf (.ptr 0 0 0 0)), (4, B false)], [bx [zi (0 : Int), zs a0.2.1, zi a0.2.2.1, zi a0.2.2.2.1, zi a0.2.2.2.2.1, zb a0.2.2.2.2.2.1, .v (.sl (.int .i64)) a0.2.2.2.2.2.2] 74]⟩ (tn 7) ?_
    exact arv [.ren [3, 4] [0]] ⟨a0.2.1, a0.2.2.1, a0.2.2.2.1, a0.2.2.2.2.1, a0.2.2.2.2.2.1, a0.2.2.2.2.2.2, rfl, h⟩
   rintro s ⟨x62, x63, x64, x65, x66, x67, rfl, h⟩
   unfold F83_j2 at h
   refine nE K (tn 8) ?_
   exact arv [.ren [3, 4] [0]] ⟨x62, (0 : Int), (0 : Int), (0 : Int), false, x67, false, rfl, h⟩
  refine nR K (tn 2) ?_
  refine cnd h ?_ ?_<;>intro h
  ·refine sq <| VW.region <| nG K 3 (tn 3) ?_
   obtain⟨y69,hy,h⟩:=aS h
   refine clc false [.t (.int .i64), .t (.int .i64), .t (.int .i64)] [] (some 64) K (ok61 N _ _ _ hy) <| nG K 1 (tn 1) ?_
   refine spC 65 h ?_ ?_<;>intro h
   ·refine nG K 2 (tn 2) <| VO.on (j := 4) (want := true) (d := 65) (b := true) rfl rfl rfl (by kernel_rfl) rfl ?_
    obtain⟨y70,hy,h⟩:=aS h
    refine clc false [.t (.sl (.int .i64)), .clo []] [] (some 68) K (ok119 N _ 120  (fun z0 => F120 N z0 ) (fun z0 _ hz => ok120 N z0 hz) hy) <| nN K (tn 3) <| rR K [3, 4] [1] ⟨[(3, .lf (.ptr 0 0 0 0)), (4, B (!y70))], [bx [zi (0 : Int), zs a0.2.1, zi a0.2.2.1, zi a0.2.2.2.1, zi a0.2.2.2.2.1, zb a0.2.2.2.2.2.1, .nil] 74]⟩ (tn 2) ?_
    exact arv [.nilB 0 6 (.int .i64), .ren [3, 4] [0]] ⟨a0.2.1, a0.2.2.1, a0.2.2.2.1, a0.2.2.2.2.1, a0.2.2.2.2.2.1, [], (!y70), rfl, h⟩
   refine nN K (tn 6) <| nE K (tn 2) ?_
   exact arv [.nilB 1 6 (.int .i64), .ren [3, 4] [1]] ⟨a0.2.1, a0.2.2.1, a0.2.2.2.1, a0.2.2.2.2.1, a0.2.2.2.2.2.1, [], false, rfl, h⟩
  refine nR K (tn 2) ?_
  refine cnd h ?_ ?_<;>intro h
  ·refine sq <| VW.region <| nG K 2 (tn 2) ?_
   obtain⟨y71,hy,h⟩:=aS h
   refine clc false [.t (.int .i64)] [] (some 76) K (ok117 N _ hy) <| nG K 1 (tn 1) ?_
   refine spC 77 h ?_ ?_<;>intro h
   ·refine nG K 2 (tn 2) <| VO.on (j := 3) (want := true) (d := 77) (b := true) rfl rfl rfl (by kernel_rfl) rfl ?_
    obtain⟨y72,hy,h⟩:=aS h
    refine clc false [.t (.int .i64)] [] (some 80) K (ok117 N _ hy) <| sN K [3, 4] [1] ⟨[(3, .lf (.ptr 0 0 0 0)), (4, B y72)], [bx [zi (0 : Int), zs a0.2.1, zi a0.2.2.1, zi a0.2.2.2.1, zi a0.2.2.2.2.1, zb a0.2.2.2.2.2.1, .v (.sl (.int .i64)) a0.2.2.2.2.2.2] 74]⟩ (tn 2) <| nE K (tn 4) ?_
    exact arv [.ren [3, 4] [0]] ⟨a0.2.1, (0 : Int), a0.2.2.2.1, (0 : Int), a0.2.2.2.2.2.1, a0.2.2.2.2.2.2, y72, rfl, h⟩
   refine nN K (tn 5) <| rR K [3, 4] [1] ⟨[(3, .lf (.ptr 0 0 0 0)), (4, B false)], [bx [zi (0 : Int), zs a0.2.1, zi (0 : Int), zi a0.2.2.2.1, zi (0 : Int), zb a0.2.2.2.2.2.1, .v (.sl (.int .i64)) a0.2.2.2.2.2.2] 74]⟩ (tn 4) ?_
   exact arv [.ren [3, 4] [0]] ⟨a0.2.1, (0 : Int), a0.2.2.2.1, (0 : Int), a0.2.2.2.2.2.1, a0.2.2.2.2.2.2, false, rfl, h⟩
  refine nR K (tn 2) ?_
  refine cnd h ?_ ?_<;>intro h
  ·refine sq <| VW.region <| nG K 2 (tn 2) ?_
   obtain⟨y73,hy,h⟩:=aS h
   refine clc false [.t (.int .i64)] [] (some 88) K (ok117 N _ hy) <| nN K (tn 1) <| rR K [3, 4] [1] ⟨[(3, .lf (.ptr 0 0 0 0)), (4, B y73)], [bx [zi (0 : Int), zs a0.2.1, zi (0 : Int), zi a0.2.2.2.1, zi a0.2.2.2.2.1, zb a0.2.2.2.2.2.1, .v (.sl (.int .i64)) a0.2.2.2.2.2.2] 74]⟩ (tn 2) ?_
   exact arv [.ren [3, 4] [0]] ⟨a0.2.1, (0 : Int), a0.2.2.2.1, a0.2.2.2.2.1, a0.2.2.2.2.2.1, a0.2.2.2.2.2.2, y73, rfl, h⟩
  refine nR K (tn 2) ?_
  refine cnd h ?_ ?_<;>intro h
  ·refine sq <| VW.region <| nG K 2 (tn 2) ?_
   obtain⟨y74,hy,h⟩:=aS h
   refine clc false [.t (.int .i64), .t (.int .i64), .t (.int .i64)] [] (some 94) K (ok61 N _ _ _ hy) <| sGh K 1 [1, 3, 95] [0, 1] [(1, .lf (.ptr 0 0 0 0)), (3, .lf (.ptr 1 0 0 0)), (95, B y74)] (tn 1) ?_
   refine spC 95 h ?_ ?_<;>intro h
   ·refine nG K 4 (tn 4) ?_
    refine spC 99 h ?_ ?_<;>intro h
    ·refine nN K (tn 6) <| nE K (tn 4) ?_
     exact arv [.ren [3, 4] [1]] ⟨a0.2.1, a0.2.2.1, a0.2.2.2.1, (0 : Int), false, a0.2.2.2.2.2.2, true, rfl, h⟩
    refine nG K 2 (tn 2) <| VO.on (j := 7) (want := false) (d := 99) (b := false) rfl rfl rfl (by kernel_rfl) rfl ?_
    obtain⟨y75,hy,h⟩:=aS h
    refine clc false [.t (.int .i64)] [] (some 102) K (ok118 N _ hy) <| nN K (tn 3) <| nE K (tn 4) ?_
    exact arv [.ren [3, 4] [1]] ⟨a0.2.1, a0.2.2.1, a0.2.2.2.1, (0 : Int), false, a0.2.2.2.2.2.2, y75, rfl, h⟩
   refine nN K (tn 10) <| nE K (tn 4) ?_
   exact arv [.ren [3, 4] [1]] ⟨a0.2.1, a0.2.2.1, a0.2.2.2.1, (0 : Int), false, a0.2.2.2.2.2.2, false, rfl, h⟩
  refine VW.join (fun s => ∃ x76 x77 x78 x79 x80 x81 x82, s = ⟨[(3, .lf (.ptr 0 0 0 0)), (4, B false), (107, B x82)], [bx [zi (0 : Int), zs x76, zi x77, zi x78, zi x79, zb x80, .v (.sl (.int .i64)) x81] 74]⟩ ∧ F83_j3 N x76 x77 x78 x79 x80 x81 x82 = some r) ?_ ?_
  ·refine nR K (tn 2) ?_
   refine cnd h ?_ ?_<;>intro h
   ·refine VW.skip ?_
    exact arv [.ren [3, 4, 107] [1]] ⟨a0.2.1, a0.2.2.1, a0.2.2.2.1, a0.2.2.2.2.1, a0.2.2.2.2.2.1, a0.2.2.2.2.2.2, (a0.1 == (4 : Int)), rfl, h⟩
   refine rR K [3, 4, 107] [1] ⟨[(3, .lf (.ptr 0 0 0 0)), (4, B false), (107, B (a0.1 == (7 : Int)))], [bx [zi (0 : Int), zs a0.2.1, zi a0.2.2.1, zi a0.2.2.2.1, zi a0.2.2.2.2.1, zb a0.2.2.2.2.2.1, .v (.sl (.int .i64)) a0.2.2.2.2.2.2] 74]⟩ (tn 2) ?_
   exact arv [.ren [3, 4, 107] [0]] ⟨a0.2.1, a0.2.2.1, a0.2.2.2.1, a0.2.2.2.2.1, a0.2.2.2.2.2.1, a0.2.2.2.2.2.2, (a0.1 == (7 : Int)), rfl, h⟩
  rintro s ⟨x76, x77, x78, x79, x80, x81, x82, rfl, h⟩
  unfold F83_j3 at h
  refine cnd h ?_ ?_<;>intro h
  ·refine nE K (tn 1) ?_
   exact arv [.ren [3, 4] [0]] ⟨x76, x77, x78, x79, x80, x81, true, rfl, h⟩
  refine VW.skip ?_
  exact arv [.ren [3, 4] [0]] ⟨x76, x77, x78, x79, x80, x81, false, rfl, h⟩
 rintro s ⟨x38, x39, x40, x41, x42, x43, x44, rfl, h⟩
 unfold F83_j0 at h
 refine sq <| VW.region <| nG K 2 (tn 2) ?_
 refine spC 111 h ?_ ?_<;>intro h
 ·refine nG K 2 (tn 2) <| VO.on (j := 1) (want := true) (d := 111) (b := true) rfl rfl rfl (by kernel_rfl) rfl ?_
  obtain⟨y45,hy,h⟩:=aS h
  refine clc false [.t Y73, .t Y73] [] (some 114) K (ok72 N _ _ hy) <| nN K (tn 2) ?_
  cases h; exact VW.ret (rt [])
 refine nN K (tn 5) ?_
 cases h; exact VW.ret (rt [])
def F82 (N : Nat) (a0 : Z73) : Option (Bool) :=
  andO (F83 N a0) fun y1 => some (!y1)
theorem ok82 N a0 {r} (h : F82 N a0 = some r) : Con prog 82 [.agg (lv Y73 a0)] [.lf (.v .bool r)] := by
 refine ctr [.lf (.v .bool)] K func82 rfl fun w0 E0 ht => ?_
 unfold F82 at h
 show VW _ _ _ _ _ (retQ _ _ _ _) _
 refine nR K (tn 2) <| sq <| VW.region <| nG K 1 (tn 1) ?_
 obtain⟨y1,hy,h⟩:=aS h
 refine clc false [.t Y73] [] (some 4) K (ok83 N _ hy) <| nN K (tn 2) ?_
 cases h; exact VW.ret (rt [])
def F38 (N : Nat) (a0 : (List Z73)) : Option (Bool) :=
  andO (F61 N (a0.length : Int) (1 : Int) (40 : Int)) fun y3 => cond (!y3) (some false) (andO (F81 N a0 (fun z0 => F82 N z0)) fun y4 => cond y4 (some false) (andO (F49 N a0 (0 : Int) (1 : Int)) fun y5 => some (y5 == (a0.length : Int))))
theorem ok38 N a0 {r} (h : F38 N a0 = some r) : Con prog 38 [Vv (.sl Y73) a0] [.lf (.v .bool r)] := by
 refine ctr [.lf (.v .bool)] K func38 rfl fun w0 E0 ht => ?_
 unfold F38 at h
 show VW _ _ _ _ _ (retQ _ _ _ _) _
 refine nR K (tn 1) <| sq <| sq <| VW.region <| nG K 2 (tn 2) ?_
 obtain⟨y3,hy,h⟩:=aS h
 refine clc false [.t (.int .i64), .t (.int .i64), .t (.int .i64)] [] (some 5) K (ok61 N _ _ _ hy) <| nG K 2 (tn 2) ?_
 refine spC 7 h ?_ ?_<;>intro h
 ·refine nN K (tn 3) ?_
  refine VW.cond (b := true) (by kernel_rfl) (fun _ => ?_) (fun h' => nomatch h')
  refine nR K (tn 1) ?_
  cases h; exact VW.ret (rt [])
 refine nG K 1 (tn 1) <| VO.on (j := 4) (want := false) (d := 7) (b := false) rfl rfl rfl (by kernel_rfl) rfl ?_
 obtain⟨y4,hy,h⟩:=aS h
 refine clc false [.t (.sl Y73), .clo []] [] (some 9) K (ok81 N _ 82  (fun z0 => F82 N z0 ) (fun z0 _ hz => ok82 N z0 hz) hy) <| nN K (tn 1) ?_
 refine cnd h ?_ ?_<;>intro h
 ·refine nR K (tn 1) ?_
  cases h; exact VW.ret (rt [])
 refine VW.skip <| sq <| VW.region <| nG K 1 (tn 1) ?_
 obtain⟨y5,hy,h⟩:=aS h
 refine clc false [.t (.sl Y73), .t (.int .i64), .t (.int .i64)] [] (some 12) K (ok49 N _ _ _ hy) <| nN K (tn 4) ?_
 cases h; exact VW.ret (rt [])
def F84_j0 (N : Nat) (x20 : (List Int)) : Option ((List Int)) :=
  some x20
def F84_l0_b (N : Nat) (a0 : (List Z73)) (y23 : Int) (nx36 : (List Int) → Int → Int → Option ((List Int))) (x29 : (List Int)) (x30 : Int) (x31 : Int) : Option ((List Int)) :=
  cond (decide (x31 < y23)) (gd (x29.length + ([x30]).length ≤ lim (.int .i64)) (andO (F49 N a0 x30 (1 : Int)) fun y40 => nx36 (x29 ++ ([x30])) y40 (IntKind.i64.wrap (x31 + (1 : Int))))) (F84_j0 N x29)
def F84_l0 (N : Nat) (a0 : (List Z73)) (y23 : Int) := loopF (F84_l0_b N a0 y23) (fun _ _ _ => none)
theorem F84_l0_s N a0 y23 {k} (hk : 0 < k) x29 x30 x31 : F84_l0 N a0 y23 k x29 x30 x31 = F84_l0_b N a0 y23 (F84_l0 N a0 y23 (k - 1)) x29 x30 x31 := by cases k;cases hk;rfl
def F84 (N : Nat) (a0 : (List Z73)) (a1 : Int) : Option ((List Int)) :=
  gd (InR a1 a0.length) (andO (F95 N ((a0.getD a1.toNat (Ty.dflt Y73)).1)) fun y23 => F84_l0 N a0 y23 N ([]) (IntKind.i64.wrap (a1 + (1 : Int))) (0 : Int))
theorem ok84 N a0 a1 {r} (h : F84 N a0 a1 = some r) : Con prog 84 [Vv (.sl Y73) a0, I a1] [.lf (.own (.int .i64) r .dp)] := by
 refine ctr [.lf (.own (.int .i64) .dp)] K func84 rfl fun w0 E0 ht => ?_
 unfold F84 at h
 show VW _ _ _ _ _ (retQ _ _ _ _) _
 refine nR K (tn 1) <| nR K (tn 1) <| nR K (tn 3) ?_
 refine VW.join (fun s => ∃ x20, s = ⟨[(5, hh 0)], [ar 0 (.int .i64) x20 .dp]⟩ ∧ F84_j0 N x20 = some r) ?_ ?_
 ·refine sq <| VW.region ?_
  obtain⟨g22,h⟩:=gS h
  refine nG K 5 (pu 2 (an g22 (tn 2))) ?_
  obtain⟨y23,hy,h⟩:=aS h
  refine clc false [.t (.int .i64)] [] (some 14) K (ok95 N _ hy) <| nN K (tn 1) <| VW.block <| lop (fun k s => ∃ x29 x30 x31, s = ⟨[(0, Vv (.sl Y73) a0), (5, hh 0), (6, I x30), (14, I y23), (15, I x31)], [ar 0 (.int .i64) x29 .dp]⟩ ∧ F84_l0 N a0 y23 k x29 x30 x31 = some r) N [.nilS 5 (.int .i64) .dp, .ren [0, 5, 6, 14, 15] [0]] ⟨[], (wr (a1 + (1 : Int))), (0 : Int), rfl, h⟩ ?_
  rintro k36 s ⟨x29, x30, x31, rfl, h⟩
  cases k36 with
  | zero => cases show none = some r from h
  | succ k36 =>
   replace h : F84_l0_b N a0 y23 (F84_l0 N a0 y23 k36) x29 x30 x31 = some r := h
   unfold F84_l0_b at h
   refine nR K (tn 1) <| sq ?_
   refine cnd h ?_ ?_<;>intro h
   ·refine VW.skip <| sq <| VW.block ?_
    obtain⟨g39,h⟩:=gS h
    refine nR K (pu 3 (an g39 (tn 1))) <| VW.region <| nG K 2 (tn 2) ?_
    obtain⟨y40,hy,h⟩:=aS h
    refine clc false [.t (.sl Y73), .t (.int .i64), .t (.int .i64)] [] (some 23) K (ok49 N _ _ _ hy) <| nN K (tn 1) <| nE K (tn 2) ?_
    exact aro [.ren [0, 5, 6, 14, 15] [0]] ⟨(x29 ++ ([x30])), y40, (wr (x31 + (1 : Int))), rfl, h⟩
   refine VW.exit ?_
   exact arv [.ren [5] [0]] ⟨x29, rfl, h⟩
 rintro s ⟨x20, rfl, h⟩
 unfold F84_j0 at h
 refine nR K (tn 2) ?_
 cases h; exact VW.ret (rt [some 0])
def F121_j0 (N : Nat) : Option (Int) :=
  some (-1 : Int)
def F121_l0_b (N : Nat) (a0 : (List Z77)) (p1 : Z77 → Option (Bool)) (nx29 : Int → Int → Option (Int)) (x23 : Int) (x24 : Int) : Option (Int) :=
  cond (decide (x24 < x23)) (gd (InR x24 a0.length) (andO (p1 (a0.getD x24.toNat (Ty.dflt Y77))) fun y33 => cond y33 (some x24) (nx29 x23 (IntKind.i64.wrap (x24 + (1 : Int)))))) (F121_j0 N)
def F121_l0 (N : Nat) (a0 : (List Z77)) (p1 : Z77 → Option (Bool)) := loopF (F121_l0_b N a0 p1) (fun _ _ => none)
theorem F121_l0_s N a0 (p1 : Z77 → Option (Bool)) {k} (hk : 0 < k) x23 x24 : F121_l0 N a0 p1 k x23 x24 = F121_l0_b N a0 p1 (F121_l0 N a0 p1 (k - 1)) x23 x24 := by cases k;cases hk;rfl
def F121 (N : Nat) (a0 : (List Z77)) (p1 : Z77 → Option (Bool)) : Option (Int) :=
  F121_l0 N a0 p1 N (a0.length : Int) (0 : Int)
theorem ok121_c1 N a0 (g1 : FuncId) e1_0 (p1 : Z77 → Option (Bool)) (hp1 : ∀ (z0 : Z77) (r : Bool), p1 z0 = some r → Con prog g1 [.agg (lv Y77 z0), .lf (.fp .str e1_0 0)] [.lf (.v .bool r)]) {r} (h : F121 N a0 p1 = some r) : Con prog 121 [Vv (.sl Y77) a0, .clo g1 [.lf (.fp .str e1_0 0)]] [.lf (.v (.int .i64) r)] := by
 refine ctr [.lf (.v (.int .i64))] K func121 rfl fun w0 E0 ht => ?_
 unfold F121 at h
 show VW _ _ _ _ _ (retQ _ _ _ _) _
 refine nR K (tn 1) ?_
 refine VW.join (fun s => s = ⟨[], []⟩ ∧ F121_j0 N = some r) ?_ ?_
 ·refine nR K (tn 3) <| VW.block <| lop (fun k s => ∃ x23 x24, s = ⟨[(0, Vv (.sl Y77) a0), (1, .clo g1 [.lf (.fp .str e1_0 0)]), (7, I x23), (8, I x24)], []⟩ ∧ F121_l0 N a0 p1 k x23 x24 = some r) N [.ren [0, 1, 7, 8] []] ⟨(a0.length : Int), (0 : Int), rfl, h⟩ ?_
  rintro k29 s ⟨x23, x24, rfl, h⟩
  cases k29 with
  | zero => cases show none = some r from h
  | succ k29 =>
   replace h : F121_l0_b N a0 p1 (F121_l0 N a0 p1 k29) x23 x24 = some r := h
   unfold F121_l0_b at h
   refine nR K (tn 1) <| sq ?_
   refine cnd h ?_ ?_<;>intro h
   ·refine VW.skip <| sq <| VW.block <| nR K (tn 2) <| sq <| VW.region ?_
    obtain⟨g32,h⟩:=gS h
    refine nG K 5 (pu 3 (an g32 (tn 1))) ?_
    obtain⟨y33,hy,h⟩:=aS h
    refine clc false [.t Y77] [.k] (some 16) K (hp1 _ _ hy) <| nN K (tn 0) ?_
    refine cnd h ?_ ?_<;>intro h
    ·refine nR K (tn 2) ?_
     cases h; exact VW.ret (rt [])
    refine VW.skip <| nE K (tn 2) ?_
    exact aro [.ren [0, 1, 7, 8] []] ⟨x23, (wr (x24 + (1 : Int))), rfl, h⟩
   refine VW.exit ?_
   exact arv [.ren [] []] ⟨rfl, h⟩
 rintro s ⟨rfl, h⟩
 unfold F121_j0 at h
 refine nR K (tn 1) ?_
 cases h; exact VW.ret (rt [])
def F122 (N : Nat) (a0 : Z77) (c0 : ByteArray) : Option (Bool) :=
  some (a0.1.toList == c0.toList)
theorem ok122 N a0 c0 {r} (h : F122 N a0 c0 = some r) : Con prog 122 [.agg (lv Y77 a0), .lf (.fp .str c0 0)] [.lf (.v .bool r)] := by
 refine ctr [.lf (.v .bool)] K func122 rfl fun w0 E0 ht => ?_
 unfold F122 at h
 show VW _ _ _ _ _ (retQ _ _ _ _) _
 refine nR K (tn 2) <| nR K (tn 5) ?_
 cases h; exact VW.ret (rt [])
def F85 (N : Nat) (a0 : (List Z77)) (a1 : ByteArray) : Option (Int) :=
  andO (F121 N a0 (fun z0 => F122 N z0 a1)) fun y1 => some y1
theorem ok85 N a0 a1 {r} (h : F85 N a0 a1 = some r) : Con prog 85 [Vv (.sl Y77) a0, S a1] [.lf (.v (.int .i64) r)] := by
 refine ctr [.lf (.v (.int .i64))] K func85 rfl fun w0 E0 ht => ?_
 unfold F85 at h
 show VW _ _ _ _ _ (retQ _ _ _ _) _
 refine nR K (tn 2) <| sq <| VW.region <| nG K 2 (tn 2) ?_
 obtain⟨y1,hy,h⟩:=aS h
 refine VO.ghl [.frzB 0 .str] <| clc false [.t (.sl Y77), .clo [.k]] [] (some 7) K (ok121_c1 N _ 122 a1 (fun z0 => F122 N z0 a1) (fun z0 _ hz => ok122 N z0 _ hz) hy) <| nN K (tn 1) ?_
 cases h; exact VW.ret (rt [])
def F86_j0 (N : Nat) (x12 : Int) : Option (Int) :=
  some x12
def F86_l0_b (N : Nat) (a0 : (List Int)) (nx21 : Int → Int → Option (Int)) (x17 : Int) (x18 : Int) : Option (Int) :=
  cond (decide (x18 < (a0.length : Int))) (gd (InR x18 a0.length) (nx21 (if (x17 : Int) < (a0.getD x18.toNat (Ty.dflt (.int .i64))) then (a0.getD x18.toNat (Ty.dflt (.int .i64))) else x17) (IntKind.i64.wrap (x18 + (1 : Int))))) (F86_j0 N x17)
def F86_l0 (N : Nat) (a0 : (List Int)) := loopF (F86_l0_b N a0) (fun _ _ => none)
theorem F86_l0_s N a0 {k} (hk : 0 < k) x17 x18 : F86_l0 N a0 k x17 x18 = F86_l0_b N a0 (F86_l0 N a0 (k - 1)) x17 x18 := by cases k;cases hk;rfl
def F86 (N : Nat) (a0 : (List Int)) : Option (Int) :=
  cond (decide ((a0.length : Int) < (1 : Int))) (none) (gd (InR (0 : Int) a0.length) (F86_l0 N a0 N (a0.getD (0 : Int).toNat (Ty.dflt (.int .i64))) (1 : Int)))
theorem ok86 N a0 {r} (h : F86 N a0 = some r) : Con prog 86 [Vv (.sl (.int .i64)) a0] [.lf (.v (.int .i64) r)] := by
 refine ctr [.lf (.v (.int .i64))] K func86 rfl fun w0 E0 ht => ?_
 unfold F86 at h
 show VW _ _ _ _ _ (retQ _ _ _ _) _
 refine nR K (tn 1) <| sq <| nR K (tn 3) ?_
 refine cnd h ?_ ?_<;>intro h
 ·exact nomatch h
 refine VW.skip ?_
 obtain⟨g1,h⟩:=gS h
 refine nR K (pu 1 (an g1 (tn 2))) ?_
 refine VW.join (fun s => ∃ x12, s = ⟨[(3, I x12)], []⟩ ∧ F86_j0 N x12 = some r) ?_ ?_
 ·refine nR K (tn 1) <| VW.block <| lop (fun k s => ∃ x17 x18, s = ⟨[(0, Vv (.sl (.int .i64)) a0), (3, I x17), (4, I x18)], []⟩ ∧ F86_l0 N a0 k x17 x18 = some r) N [.ren [0, 3, 4] []] ⟨(a0.getD (0 : Int).toNat (Ty.dflt (.int .i64))), (1 : Int), rfl, h⟩ ?_
  rintro k21 s ⟨x17, x18, rfl, h⟩
  cases k21 with
  | zero => cases show none = some r from h
  | succ k21 =>
   replace h : F86_l0_b N a0 (F86_l0 N a0 k21) x17 x18 = some r := h
   unfold F86_l0_b at h
   refine sq <| nR K (tn 4) ?_
   refine cnd h ?_ ?_<;>intro h
   ·refine VW.skip <| sq <| VW.block ?_
    obtain⟨g23,h⟩:=gS h
    refine nE K (pu 3 (an g23 (tn 3))) <| nE K (tn 3) ?_
    exact aro [.ren [0, 3, 4] []] ⟨(if (x17 : Int) < (a0.getD x18.toNat (Ty.dflt (.int .i64))) then (a0.getD x18.toNat (Ty.dflt (.int .i64))) else x17), (wr (x18 + (1 : Int))), rfl, h⟩
   refine VW.exit ?_
   exact arv [.ren [3] []] ⟨x17, rfl, h⟩
 rintro s ⟨x12, rfl, h⟩
 unfold F86_j0 at h
 refine nR K (tn 2) ?_
 cases h; exact VW.ret (rt [])
def F39_j0 (N : Nat) (x31 : (List Int)) : Option (Int) :=
  gd (InR (0 : Int) x31.length) (gd ((0 : Int).toNat < x31.length) (some (x31.getD ((0 : Int).toNat) (Ty.dflt (.int .i64)))))
def F39_j1 (N : Nat) (x31 : (List Int)) (x86 : Int) (x87 : ByteArray) (x88 : Int) (x89 : Int) (x90 : Int) (x91 : Bool) (x92 : (List Int)) (x93 : Int) (x94 : Bool) : Option (Int) :=
  cond x94 (gd (InR (0 : Int) x31.length) (gd ((0 : Int).toNat < x31.length) (cond (decide (x88 ≥ (x31.getD ((0 : Int).toNat) (Ty.dflt (.int .i64))))) (some (-1 : Int)) (F39_j0 N x31)))) (cond (x93 == (2 : Int)) (andO (F86 N x92) fun y100 => gd (InR (0 : Int) x31.length) (gd ((0 : Int).toNat < x31.length) (cond (decide (y100 ≥ (x31.getD ((0 : Int).toNat) (Ty.dflt (.int .i64))))) (some (-1 : Int)) (some (x92.length : Int))))) (cond (x93 == (3 : Int)) (gd (InR (0 : Int) x31.length) (gd ((0 : Int).toNat < x31.length) (cond (decide (x88 ≥ (x31.getD ((0 : Int).toNat) (Ty.dflt (.int .i64))))) (some (-1 : Int)) (gd (InR (1 : Int) x31.length) (gd ((1 : Int).toNat < x31.length) (cond (decide (x90 ≥ (x31.getD ((1 : Int).toNat) (Ty.dflt (.int .i64))))) (some (-1 : Int)) (gd (InR (0 : Int) x31.length) (gd ((0 : Int).toNat < x31.length) (gd (InR (1 : Int) x31.length) (gd ((1 : Int).toNat < x31.length) (cond (decide ((IntKind.i64.wrap ((x31.getD ((0 : Int).toNat) (Ty.dflt (.int .i64))) + (x31.getD ((1 : Int).toNat) (Ty.dflt (.int .i64))))) > (64 : Int))) (some (-1 : Int)) (gd (InR (0 : Int) x31.length) (gd ((0 : Int).toNat < x31.length) (gd (InR (1 : Int) x31.length) (gd ((1 : Int).toNat < x31.length) (some (IntKind.i64.wrap ((x31.getD ((0 : Int).toNat) (Ty.dflt (.int .i64))) + (x31.getD ((1 : Int).toNat) (Ty.dflt (.int .i64))))))))))))))))))))) (cond (x93 == (4 : Int)) (gd (InR (0 : Int) x31.length) (gd ((0 : Int).toNat < x31.length) (gd (InR (1 : Int) x31.length) (gd ((1 : Int).toNat < x31.length) (cond ((x31.getD ((0 : Int).toNat) (Ty.dflt (.int .i64))) != (x31.getD ((1 : Int).toNat) (Ty.dflt (.int .i64)))) (some (-1 : Int)) (F39_j0 N x31)))))) (F39_j0 N x31))))
def F39_j2 (N : Nat) (a0 : (List Z77)) (a1 : (List Z73)) (a2 : Int) (x31 : (List Int)) : Option (Int) :=
  gd (InR a2 a1.length) (cond (((a1.getD a2.toNat (Ty.dflt Y73)).1) == (0 : Int)) (andO (F85 N a0 ((a1.getD a2.toNat (Ty.dflt Y73)).2.1)) fun y84 => cond (decide (y84 < (0 : Int))) (some (-1 : Int)) (gd (InR y84 a0.length) (some ((a0.getD y84.toNat (Ty.dflt Y77)).2)))) (cond (((a1.getD a2.toNat (Ty.dflt Y73)).1) == (1 : Int)) (F39_j1 N x31 ((a1.getD a2.toNat (Ty.dflt Y73)).1) ((a1.getD a2.toNat (Ty.dflt Y73)).2.1) ((a1.getD a2.toNat (Ty.dflt Y73)).2.2.1) ((a1.getD a2.toNat (Ty.dflt Y73)).2.2.2.1) ((a1.getD a2.toNat (Ty.dflt Y73)).2.2.2.2.1) ((a1.getD a2.toNat (Ty.dflt Y73)).2.2.2.2.2.1) ((a1.getD a2.toNat (Ty.dflt Y73)).2.2.2.2.2.2) ((a1.getD a2.toNat (Ty.dflt Y73)).1) (((a1.getD a2.toNat (Ty.dflt Y73)).1) == (1 : Int))) (F39_j1 N x31 ((a1.getD a2.toNat (Ty.dflt Y73)).1) ((a1.getD a2.toNat (Ty.dflt Y73)).2.1) ((a1.getD a2.toNat (Ty.dflt Y73)).2.2.1) ((a1.getD a2.toNat (Ty.dflt Y73)).2.2.2.1) ((a1.getD a2.toNat (Ty.dflt Y73)).2.2.2.2.1) ((a1.getD a2.toNat (Ty.dflt Y73)).2.2.2.2.2.1) ((a1.getD a2.toNat (Ty.dflt Y73)).2.2.2.2.2.2) ((a1.getD a2.toNat (Ty.dflt Y73)).1) (((a1.getD a2.toNat (Ty.dflt Y73)).1) == (5 : Int)))))
def F39_l0_b (N : Nat) (a0 : (List Z77)) (a1 : (List Z73)) (a2 : Int) (self : (List Z77) → (List Z73) → Int → Option (Int)) (y133 : (List Int)) (nx154 : (List Int) → Int → Int → Option (Int)) (x143 : (List Int)) (x144 : Int) (x145 : Int) : Option (Int) :=
  cond (decide (x145 < x144)) (gd (InR x145 y133.length) (gd (x145.toNat < y133.length) (andO (self a0 a1 (y133.getD x145.toNat (Ty.dflt (.int .i64)))) fun y161 => cond (decide (y161 < (0 : Int))) (some (-1 : Int)) (gd (x143.length + ([y161]).length ≤ lim (.int .i64)) (nx154 (x143 ++ ([y161])) x144 (IntKind.i64.wrap (x145 + (1 : Int)))))))) (F39_j2 N a0 a1 a2 x143)
def F39_l0 (N : Nat) (a0 : (List Z77)) (a1 : (List Z73)) (a2 : Int) (self : (List Z77) → (List Z73) → Int → Option (Int)) (y133 : (List Int)) := loopF (F39_l0_b N a0 a1 a2 self y133) (fun _ _ _ => none)
theorem F39_l0_s N a0 a1 a2 (self : (List Z77) → (List Z73) → Int → Option (Int)) y133 {k} (hk : 0 < k) x143 x144 x145 : F39_l0 N a0 a1 a2 self y133 k x143 x144 x145 = F39_l0_b N a0 a1 a2 self y133 (F39_l0 N a0 a1 a2 self y133 (k - 1)) x143 x144 x145 := by cases k;cases hk;rfl
def F39_b (N : Nat) (self : (List Z77) → (List Z73) → Int → Option (Int)) (a0 : (List Z77)) (a1 : (List Z73)) (a2 : Int) : Option (Int) :=
  andO (F84 N a1 a2) fun y133 => F39_l0 N a0 a1 a2 self y133 N ([]) (y133.length : Int) (0 : Int)
theorem ok39_b (N : Nat) (self : (List Z77) → (List Z73) → Int → Option (Int)) (ih : ∀ (a0 : (List Z77)) (a1 : (List Z73)) (a2 : Int) (r : Int), self a0 a1 a2 = some r → Con prog 39 [Vv (.sl Y77) a0, Vv (.sl Y73) a1, I a2] [.lf (.v (.int .i64) r)]) (a0 : (List Z77)) (a1 : (List Z73)) (a2 : Int) {r : Int} (h : F39_b N self a0 a1 a2 = some r) : Con prog 39 [Vv (.sl Y77) a0, Vv (.sl Y73) a1, I a2] [.lf (.v (.int .i64) r)] := by
 refine ctr [.lf (.v (.int .i64))] K func39 rfl fun w0 E0 ht => ?_
 unfold F39_b at h
 show VW _ _ _ _ _ (retQ _ _ _ _) _
 refine nR K (tn 1) <| nR K (tn 1) ?_
 refine VW.join (fun s => ∃ x31, s = ⟨[(0, Vv (.sl Y77) a0), (1, Vv (.sl Y73) a1), (2, I a2), (7, hh 0)], [ar 0 (.int .i64) x31 .dp]⟩ ∧ F39_j2 N a0 a1 a2 x31 = some r) ?_ ?_
 ·refine sq <| VW.region <| nG K 2 (tn 2) ?_
  obtain⟨y133,hy,h⟩:=aS h
  refine clc false [.t (.sl Y73), .t (.int .i64)] [] (some 15) K (ok84 N _ _ hy) <| nN K (tn 2) <| VW.block <| lop (fun k s => ∃ x143 x144 x145, s = ⟨[(0, Vv (.sl Y77) a0), (1, Vv (.sl Y73) a1), (2, I a2), (7, hh 0), (15, hh 1), (16, I x144), (17, I x145)], [ar 0 (.int .i64) x143 .dp, ar 0 (.int .i64) y133 .dp]⟩ ∧ F39_l0 N a0 a1 a2 self y133 k x143 x144 x145 = some r) N [.nilS 7 (.int .i64) .dp, .ren [0, 1, 2, 7, 15, 16, 17] [1, 0]] ⟨[], (y133.length : Int), (0 : Int), rfl, h⟩ ?_
  rintro k154 s ⟨x143, x144, x145, rfl, h⟩
  cases k154 with
  | zero => cases show none = some r from h
  | succ k154 =>
   replace h : F39_l0_b N a0 a1 a2 self y133 (F39_l0 N a0 a1 a2 self y133 k154) x143 x144 x145 = some r := h
   unfold F39_l0_b at h
   refine nR K (tn 1) <| sq ?_
   refine cnd h ?_ ?_<;>intro h
   ·refine VW.skip <| sq <| VW.block ?_
    obtain⟨g159,h⟩:=gS h
    obtain⟨g160,h⟩:=gS h
    refine nR K (an g159 (an g160 (tn 1))) <| sq <| VW.region <| nG K 3 (tn 3) ?_
    obtain⟨y161,hy,h⟩:=aS h
    refine clc false [.t (.sl Y77), .t (.sl Y73), .t (.int .i64)] [] (some 24) K (ih _ _ _ _ hy) <| nN K (tn 1) <| sq <| nR K (tn 2) ?_
    refine cnd h ?_ ?_<;>intro h
    ·refine nR K (tn 1) ?_
     cases h; exact VW.ret (rt [])
    refine VW.skip ?_
    obtain⟨g162,h⟩:=gS h
    refine nE K (pu 3 (an g162 (tn 1))) <| nE K (tn 2) ?_
    exact aro [.ren [0, 1, 2, 7, 15, 16, 17] [0, 1]] ⟨(x143 ++ ([y161])), x144, (wr (x145 + (1 : Int))), rfl, h⟩
   refine VW.exit ?_
   exact arv [.ren [0, 1, 2, 7] [0]] ⟨x143, rfl, h⟩
 rintro s ⟨x31, rfl, h⟩
 unfold F39_j2 at h
 obtain⟨g32,h⟩:=gS h
 refine nR K (pu 2 (an g32 (tn 3))) ?_
 refine VW.join (fun s => s = ⟨[(7, hh 0)], [ar 0 (.int .i64) x31 .dp]⟩ ∧ F39_j0 N x31 = some r) ?_ ?_
 ·refine nR K (tn 2) <| VW.block <| nR K (tn 2) ?_
  refine cnd h ?_ ?_<;>intro h
  ·refine sq <| VW.region <| nG K 3 (tn 3) ?_
   obtain⟨y84,hy,h⟩:=aS h
   refine clc false [.t (.sl Y77), .t .str] [] (some 43) K (ok85 N _ _ hy) <| nN K (tn 1) <| sq <| nR K (tn 2) ?_
   refine cnd h ?_ ?_<;>intro h
   ·refine nR K (tn 1) ?_
    cases h; exact VW.ret (rt [])
   refine VW.skip ?_
   obtain⟨g85,h⟩:=gS h
   refine nR K (pu 2 (an g85 (tn 3))) ?_
   cases h; exact VW.ret (rt [])
  refine VW.join (fun s => ∃ x86 x87 x88 x89 x90 x91 x92 x93 x94, s = ⟨[(7, hh 0), (11, .lf (.ptr 1 0 0 0)), (37, I x93), (51, B x94)], [ar 0 (.int .i64) x31 .dp, bx [zi x86, zs x87, zi x88, zi x89, zi x90, zb x91, .v (.sl (.int .i64)) x92] 74]⟩ ∧ F39_j1 N x31 x86 x87 x88 x89 x90 x91 x92 x93 x94 = some r) ?_ ?_
  ·refine nR K (tn 2) ?_
   refine cnd h ?_ ?_<;>intro h
   ·refine VW.skip ?_
    exact arv [.ren [7, 11, 37, 51] [0, 1]] ⟨(a1.getD a2.toNat D73).1, (a1.getD a2.toNat D73).2.1, (a1.getD a2.toNat D73).2.2.1, (a1.getD a2.toNat D73).2.2.2.1, (a1.getD a2.toNat D73).2.2.2.2.1, (a1.getD a2.toNat D73).2.2.2.2.2.1, (a1.getD a2.toNat D73).2.2.2.2.2.2, (a1.getD a2.toNat D73).1, (((a1.getD a2.toNat D73).1) == (1 : Int)), rfl, h⟩
   refine nE K (tn 2) ?_
   exact arv [.ren [7, 11, 37, 51] [0, 1]] ⟨(a1.getD a2.toNat D73).1, (a1.getD a2.toNat D73).2.1, (a1.getD a2.toNat D73).2.2.1, (a1.getD a2.toNat D73).2.2.2.1, (a1.getD a2.toNat D73).2.2.2.2.1, (a1.getD a2.toNat D73).2.2.2.2.2.1, (a1.getD a2.toNat D73).2.2.2.2.2.2, (a1.getD a2.toNat D73).1, (((a1.getD a2.toNat D73).1) == (5 : Int)), rfl, h⟩
  rintro s ⟨x86, x87, x88, x89, x90, x91, x92, x93, x94, rfl, h⟩
  unfold F39_j1 at h
  refine cnd h ?_ ?_<;>intro h
  ·refine sq ?_
   obtain⟨g95,h⟩:=gS h
   obtain⟨g96,h⟩:=gS h
   refine dr K [] [] [] [7, 59] [0] (pu 3 (an g95 (an g96 (tn 1)))) trivial ?_
   refine cnd h ?_ ?_<;>intro h
   ·refine nR K (tn 1) ?_
    cases h; exact VW.ret (rt [])
   refine VW.skip ?_
   exact arv [.ren [7] [0]] ⟨rfl, h⟩
  refine nR K (tn 2) ?_
  refine cnd h ?_ ?_<;>intro h
  ·refine sq <| sq ?_
   obtain⟨y100,hy100,h⟩:=aS h
   obtain⟨g101,h⟩:=gS h
   obtain⟨g102,h⟩:=gS h
   refine dr K [(2, .cl [] (some 64) [.lf (.v (.int .i64) y100)])] [(2, 0)] [] [11, 68] [1] (pu 4 (an g101 (an g102 (tn 1)))) ⟨qC false [.t (.sl (.int .i64))] [] [] (some 64) K (ok86 N _ hy100), trivial⟩ ?_
   refine cnd h ?_ ?_<;>intro h
   ·refine nR K (tn 1) ?_
    cases h; exact VW.ret (rt [])
   refine VW.skip <| nR K (tn 4) ?_
   cases h; exact VW.ret (rt [])
  refine nR K (tn 2) ?_
  refine cnd h ?_ ?_<;>intro h
  ·refine sq <| sq ?_
   obtain⟨g113,h⟩:=gS h
   obtain⟨g114,h⟩:=gS h
   rcases Bool.eq_false_or_eq_true (decide (x88 ≥ (x31.getD ((0 : Int).toNat) (Ty.dflt (.int .i64))))) with hb115 | hb115
   ·replace h := cond_t h hb115
    refine dr K [(6, .lit true)] [(6, 0)] [] [7, 97] [0] (pu 3 (an g113 (an g114 (tn 19)))) ⟨qB 80 hb115 K trivial, trivial⟩ ?_
    refine VW.cond (b := true) (by kernel_rfl) (fun _ => ?_) (fun h' => nomatch h')
    refine nR K (tn 1) ?_
    cases h; exact VW.ret (rt [])
   replace h := cond_f h hb115
   obtain⟨g116,h⟩:=gS h
   obtain⟨g117,h⟩:=gS h
   rcases Bool.eq_false_or_eq_true (decide (x90 ≥ (x31.getD ((1 : Int).toNat) (Ty.dflt (.int .i64))))) with hb118 | hb118
   ·replace h := cond_t h hb118
    refine dr K [(6, .lit false), (14, .lit true)] [(6, 0), (14, 0)] [] [7, 97] [0] (pu 3 (an g113 (an g114 (pu 5 (an g116 (an g117 (tn 12))))))) ⟨qB 80 hb115 K trivial, qB 88 hb118 K trivial, trivial⟩ ?_
    refine VW.cond (b := true) (by kernel_rfl) (fun _ => ?_) (fun h' => nomatch h')
    refine nR K (tn 1) ?_
    cases h; exact VW.ret (rt [])
   replace h := cond_f h hb118
   obtain⟨g119,h⟩:=gS h
   obtain⟨g120,h⟩:=gS h
   obtain⟨g121,h⟩:=gS h
   obtain⟨g122,h⟩:=gS h
   refine dr K [(6, .lit false), (14, .lit false)] [(6, 0), (14, 0)] [] [7, 97] [0] (pu 3 (an g113 (an g114 (pu 5 (an g116 (an g117 (pu 4 (an g119 (an g120 (pu 1 (an g121 (an g122 (tn 3))))))))))))) ⟨qB 80 hb115 K trivial, qB 88 hb118 K trivial, trivial⟩ ?_
   refine cnd h ?_ ?_<;>intro h
   ·refine nR K (tn 1) ?_
    cases h; exact VW.ret (rt [])
   refine VW.skip <| sq ?_
   obtain⟨g123,h⟩:=gS h
   obtain⟨g124,h⟩:=gS h
   obtain⟨g125,h⟩:=gS h
   obtain⟨g126,h⟩:=gS h
   refine dr K [] [] [] [6] [] (pu 1 (an g123 (an g124 (pu 1 (an g125 (an g126 (tn 2))))))) trivial ?_
   cases h; exact VW.ret (rt [])
  refine nR K (tn 2) ?_
  refine cnd h ?_ ?_<;>intro h
  ·refine sq ?_
   obtain⟨g127,h⟩:=gS h
   obtain⟨g128,h⟩:=gS h
   obtain⟨g129,h⟩:=gS h
   obtain⟨g130,h⟩:=gS h
   refine dr K [] [] [] [7, 113] [0] (pu 1 (an g127 (an g128 (pu 1 (an g129 (an g130 (tn 1))))))) trivial ?_
   refine cnd h ?_ ?_<;>intro h
   ·refine nR K (tn 1) ?_
    cases h; exact VW.ret (rt [])
   refine VW.skip ?_
   exact arv [.ren [7] [0]] ⟨rfl, h⟩
  refine VW.skip ?_
  exact arv [.ren [7] [0]] ⟨rfl, h⟩
 rintro s ⟨rfl, h⟩
 unfold F39_j0 at h
 obtain⟨g81,h⟩:=gS h
 obtain⟨g82,h⟩:=gS h
 refine nR K (pu 1 (an g81 (an g82 (tn 1)))) ?_
 cases h; exact VW.ret (rt [])
def F39_r (N : Nat) := loopF (F39_b N) (fun _ _ _ => none)
theorem F39_s N {k} (hk : 0 < k) a0 a1 a2 : F39_r N k a0 a1 a2 = F39_b N (F39_r N (k - 1)) a0 a1 a2 := by cases k;cases hk;rfl
def F39 (N : Nat) : (List Z77) → (List Z73) → Int → Option (Int) := F39_r N N
theorem ok39_k (N : Nat) : ∀ (k : Nat) (a0 : (List Z77)) (a1 : (List Z73)) (a2 : Int) (r : Int), loopF (F39_b N) (fun _ _ _ => none) k a0 a1 a2 = some r → Con prog 39 [Vv (.sl Y77) a0, Vv (.sl Y73) a1, I a2] [.lf (.v (.int .i64) r)]
 | 0, a0, a1, a2, r, h => nomatch (show (none : Option (Int)) = some r from h)
 | k + 1, a0, a1, a2, r, h => ok39_b N _ (ok39_k N k) a0 a1 a2 h
theorem ok39 N a0 a1 a2 {r} (h : F39 N a0 a1 a2 = some r) : Con prog 39 [Vv (.sl Y77) a0, Vv (.sl Y73) a1, I a2] [.lf (.v (.int .i64) r)] := ok39_k N N a0 a1 a2 r h
def F7 (N : Nat) (a0 : (List Z77)) (a1 : (List Z73)) : Option (Int) :=
  andO (F37 N a0) fun y3 => cond (!y3) (some (-1 : Int)) (andO (F38 N a1) fun y4 => cond (!y4) (some (-1 : Int)) (andO (F39 N a0 a1 (0 : Int)) fun y5 => some y5))
theorem ok7 N a0 a1 {r} (h : F7 N a0 a1 = some r) : Con prog 7 [Vv (.sl Y77) a0, Vv (.sl Y73) a1] [.lf (.v (.int .i64) r)] := by
 refine ctr [.lf (.v (.int .i64))] K func7 rfl fun w0 E0 ht => ?_
 unfold F7 at h
 show VW _ _ _ _ _ (retQ _ _ _ _) _
 refine nR K (tn 1) <| sq <| sq <| VW.region <| nG K 1 (tn 1) ?_
 obtain⟨y3,hy,h⟩:=aS h
 refine clc false [.t (.sl Y77)] [] (some 6) K (ok37 N _ hy) <| nG K 2 (tn 2) ?_
 refine spC 8 h ?_ ?_<;>intro h
 ·refine nN K (tn 4) ?_
  refine VW.cond (b := true) (by kernel_rfl) (fun _ => ?_) (fun h' => nomatch h')
  refine nR K (tn 1) ?_
  cases h; exact VW.ret (rt [])
 refine nG K 1 (tn 1) <| VO.on (j := 3) (want := false) (d := 8) (b := false) rfl rfl rfl (by kernel_rfl) rfl ?_
 obtain⟨y4,hy,h⟩:=aS h
 refine clc false [.t (.sl Y73)] [] (some 10) K (ok38 N _ hy) <| nN K (tn 2) ?_
 refine cnd h ?_ ?_<;>intro h
 ·refine nR K (tn 1) ?_
  cases h; exact VW.ret (rt [])
 refine VW.skip <| sq <| VW.region <| nG K 2 (tn 2) ?_
 obtain⟨y5,hy,h⟩:=aS h
 refine clc false [.t (.sl Y77), .t (.sl Y73), .t (.int .i64)] [] (some 15) K (ok39 N _ _ _ hy) <| nN K (tn 1) ?_
 cases h; exact VW.ret (rt [])
def F64 (N : Nat) (a0 : Int) (a1 : Int) (a2 : Int) : Option (Bool) :=
  cond (decide (a1 ≤ a0)) (some (decide (a0 ≤ a2))) (some false)
theorem ok64 N a0 a1 a2 {r} (h : F64 N a0 a1 a2 = some r) : Con prog 64 [I a0, I a1, I a2] [.lf (.v .bool r)] := by
 refine ctr [.lf (.v .bool)] K func64 rfl fun w0 E0 ht => ?_
 unfold F64 at h
 show VW _ _ _ _ _ (retQ _ _ _ _) _
 refine nR K (tn 1) <| sq <| VW.region <| nG K 4 (tn 4) ?_
 refine spC 10 h ?_ ?_<;>intro h
 ·refine nN K (tn 5) ?_
  cases h; exact VW.ret (rt [])
 refine nN K (tn 5) ?_
 cases h; exact VW.ret (rt [])
def F63_j0 (N : Nat) : Option (Bool) :=
  some true
def F63_j1 (N : Nat) (nx74 : Int → Option (Bool)) (x60 : Int) : Option (Bool) :=
  nx74 (IntKind.i64.wrap (x60 + (1 : Int)))
def F63_l0_b (N : Nat) (a0 : ByteArray) (nx74 : Int → Option (Bool)) (x60 : Int) : Option (Bool) :=
  cond (decide (x60 < (a0.size : Int))) (gd (InR x60 a0.size) (cond (decide (((a0.data.getD x60.toNat 0).toNat : Int) < (97 : Int))) (gd (InR x60 a0.size) (cond (decide (((a0.data.getD x60.toNat 0).toNat : Int) < (48 : Int))) (some false) (gd (InR x60 a0.size) (cond (decide (((a0.data.getD x60.toNat 0).toNat : Int) > (57 : Int))) (some false) (F63_j1 N nx74 x60))))) (gd (InR x60 a0.size) (cond (decide (((a0.data.getD x60.toNat 0).toNat : Int) > (122 : Int))) (gd (InR x60 a0.size) (cond (decide (((a0.data.getD x60.toNat 0).toNat : Int) < (48 : Int))) (some false) (gd (InR x60 a0.size) (cond (decide (((a0.data.getD x60.toNat 0).toNat : Int) > (57 : Int))) (some false) (F63_j1 N nx74 x60))))) (F63_j1 N nx74 x60))))) (F63_j0 N)
def F63_l0 (N : Nat) (a0 : ByteArray) := loopF (F63_l0_b N a0) (fun _ => none)
theorem F63_l0_s N a0 {k} (hk : 0 < k) x60 : F63_l0 N a0 k x60 = F63_l0_b N a0 (F63_l0 N a0 (k - 1)) x60 := by cases k;cases hk;rfl
def F63 (N : Nat) (a0 : ByteArray) : Option (Bool) :=
  andO (F64 N (a0.size : Int) (1 : Int) (12 : Int)) fun y3 => cond (!y3) (some false) (gd (InR (0 : Int) a0.size) (cond (decide (((a0.data.getD (0 : Int).toNat 0).toNat : Int) < (97 : Int))) (some false) (F63_l0 N a0 N (0 : Int))))
theorem ok63 N a0 {r} (h : F63 N a0 = some r) : Con prog 63 [S a0] [.lf (.v .bool r)] := by
 refine ctr [.lf (.v .bool)] K func63 rfl fun w0 E0 ht => ?_
 unfold F63 at h
 show VW _ _ _ _ _ (retQ _ _ _ _) _
 refine nR K (tn 1) <| sq <| sq <| VW.region <| nG K 2 (tn 2) ?_
 obtain⟨y3,hy,h⟩:=aS h
 refine clc false [.t (.int .i64), .t (.int .i64), .t (.int .i64)] [] (some 6) K (ok64 N _ _ _ hy) <| nG K 2 (tn 2) ?_
 refine spC 8 h ?_ ?_<;>intro h
 ·refine nN K (tn 4) ?_
  refine VW.cond (b := true) (by kernel_rfl) (fun _ => ?_) (fun h' => nomatch h')
  refine nR K (tn 1) ?_
  cases h; exact VW.ret (rt [])
 obtain⟨g4,h⟩:=gS h
 refine nN K (pu 1 (an g4 (tn 2))) ?_
 refine cnd h ?_ ?_<;>intro h
 ·refine nR K (tn 1) ?_
  cases h; exact VW.ret (rt [])
 refine VW.skip ?_
 refine VW.join (fun s => s = ⟨[], []⟩ ∧ F63_j0 N = some r) ?_ ?_
 ·refine nR K (tn 1) <| VW.block <| lop (fun k s => ∃ x60, s = ⟨[(0, S a0), (3, I x60)], []⟩ ∧ F63_l0 N a0 k x60 = some r) N [.ren [0, 3] []] ⟨(0 : Int), rfl, h⟩ ?_
  rintro k74 s ⟨x60, rfl, h⟩
  cases k74 with
  | zero => cases show none = some r from h
  | succ k74 =>
   replace h : F63_l0_b N a0 (F63_l0 N a0 k74) x60 = some r := h
   unfold F63_l0_b at h
   refine sq <| nR K (tn 4) ?_
   refine cnd h ?_ ?_<;>intro h
   ·refine VW.skip ?_
    refine VW.join (fun s => s = ⟨[(0, S a0), (3, I x60)], []⟩ ∧ F63_j1 N (F63_l0 N a0 k74) x60 = some r) ?_ ?_
    ·refine VW.block <| sq <| VW.region ?_
     obtain⟨g82,h⟩:=gS h
     refine nG K 5 (pu 2 (an g82 (tn 2))) ?_
     refine spC 23 h ?_ ?_<;>intro h
     ·obtain⟨g83,h⟩:=gS h
      refine nG K 11 (pu 8 (an g83 (tn 2))) ?_
      refine spC 34 h ?_ ?_<;>intro h
      ·refine nN K (tn 6) ?_
       refine VW.cond (b := true) (by kernel_rfl) (fun _ => ?_) (fun h' => nomatch h')
       refine nR K (tn 1) ?_
       cases h; exact VW.ret (rt [])
      obtain⟨g84,h⟩:=gS h
      refine nN K (pu 2 (an g84 (tn 3))) ?_
      refine cnd h ?_ ?_<;>intro h
      ·refine nR K (tn 1) ?_
       cases h; exact VW.ret (rt [])
      refine VW.skip ?_
      exact arv [.ren [0, 3] []] ⟨rfl, h⟩
     obtain⟨g85,h⟩:=gS h
     refine nG K 6 (pu 2 (an g85 (tn 3))) ?_
     refine spC 29 h ?_ ?_<;>intro h
     ·obtain⟨g86,h⟩:=gS h
      refine nG K 5 (pu 2 (an g86 (tn 2))) ?_
      refine spC 34 h ?_ ?_<;>intro h
      ·refine nN K (tn 6) ?_
       refine VW.cond (b := true) (by kernel_rfl) (fun _ => ?_) (fun h' => nomatch h')
       refine nR K (tn 1) ?_
       cases h; exact VW.ret (rt [])
      obtain⟨g87,h⟩:=gS h
      refine nN K (pu 2 (an g87 (tn 3))) ?_
      refine cnd h ?_ ?_<;>intro h
      ·refine nR K (tn 1) ?_
       cases h; exact VW.ret (rt [])
      refine VW.skip ?_
      exact arv [.ren [0, 3] []] ⟨rfl, h⟩
     refine nN K (tn 11) ?_
     refine VW.cond (b := false) (by kernel_rfl) (fun h' => nomatch h') (fun _ => ?_)
     refine VW.skip ?_
     exact arv [.ren [0, 3] []] ⟨rfl, h⟩
    rintro s ⟨rfl, h⟩
    unfold F63_j1 at h
    refine nE K (tn 3) ?_
    exact aro [.ren [0, 3] []] ⟨(wr (x60 + (1 : Int))), rfl, h⟩
   refine VW.exit ?_
   exact arv [.ren [] []] ⟨rfl, h⟩
 rintro s ⟨rfl, h⟩
 unfold F63_j0 at h
 refine nR K (tn 1) ?_
 cases h; exact VW.ret (rt [])
def F65_j0 (N : Nat) (a0 : ByteArray) (a1 : ByteArray) : Option (Bool) :=
  some (decide ((a0.size : Int) < (a1.size : Int)))
def F65_l0_b (N : Nat) (a0 : ByteArray) (a1 : ByteArray) (nx45 : Int → Option (Bool)) (x36 : Int) : Option (Bool) :=
  cond (decide (x36 < (a0.size : Int))) (cond (decide (x36 < (a1.size : Int))) (gd (InR x36 a0.size) (gd (InR x36 a1.size) (cond (((a0.data.getD x36.toNat 0).toNat : Int) != ((a1.data.getD x36.toNat 0).toNat : Int)) (gd (InR x36 a0.size) (gd (InR x36 a1.size) (some (decide (((a0.data.getD x36.toNat 0).toNat : Int) < ((a1.data.getD x36.toNat 0).toNat : Int)))))) (nx45 (IntKind.i64.wrap (x36 + (1 : Int))))))) (F65_j0 N a0 a1)) (F65_j0 N a0 a1)
def F65_l0 (N : Nat) (a0 : ByteArray) (a1 : ByteArray) := loopF (F65_l0_b N a0 a1) (fun _ => none)
theorem F65_l0_s N a0 a1 {k} (hk : 0 < k) x36 : F65_l0 N a0 a1 k x36 = F65_l0_b N a0 a1 (F65_l0 N a0 a1 (k - 1)) x36 := by cases k;cases hk;rfl
def F65 (N : Nat) (a0 : ByteArray) (a1 : ByteArray) : Option (Bool) :=
  F65_l0 N a0 a1 N (0 : Int)
theorem ok65 N a0 a1 {r} (h : F65 N a0 a1 = some r) : Con prog 65 [S a0, S a1] [.lf (.v .bool r)] := by
 refine ctr [.lf (.v .bool)] K func65 rfl fun w0 E0 ht => ?_
 unfold F65 at h
 show VW _ _ _ _ _ (retQ _ _ _ _) _
 refine nR K (tn 1) ?_
 refine VW.join (fun s => s = ⟨[(0, S a0), (1, S a1)], []⟩ ∧ F65_j0 N a0 a1 = some r) ?_ ?_
 ·refine nR K (tn 1) <| VW.block <| lop (fun k s => ∃ x36, s = ⟨[(0, S a0), (1, S a1), (5, I x36)], []⟩ ∧ F65_l0 N a0 a1 k x36 = some r) N [.ren [0, 1, 5] []] ⟨(0 : Int), rfl, h⟩ ?_
  rintro k45 s ⟨x36, rfl, h⟩
  cases k45 with
  | zero => cases show none = some r from h
  | succ k45 =>
   replace h : F65_l0_b N a0 a1 (F65_l0 N a0 a1 k45) x36 = some r := h
   unfold F65_l0_b at h
   refine sq <| sq <| VW.region <| nG K 5 (tn 5) ?_
   refine spC 10 h ?_ ?_<;>intro h
   ·refine nN K (tn 5) ?_
    refine cnd h ?_ ?_<;>intro h
    ·refine VW.skip <| sq <| VW.block <| sq ?_
     obtain⟨g50,h⟩:=gS h
     obtain⟨g51,h⟩:=gS h
     refine dr K [] [] [] [0, 1, 5, 24] [] (pu 2 (an g50 (pu 2 (an g51 (tn 1))))) trivial ?_
     refine cnd h ?_ ?_<;>intro h
     ·refine sq ?_
      obtain⟨g52,h⟩:=gS h
      obtain⟨g53,h⟩:=gS h
      refine dr K [] [] [] [4] [] (pu 2 (an g52 (pu 2 (an g53 (tn 2))))) trivial ?_
      cases h; exact VW.ret (rt [])
     refine VW.skip <| nE K (tn 3) ?_
     exact aro [.ren [0, 1, 5] []] ⟨(wr (x36 + (1 : Int))), rfl, h⟩
    refine VW.exit ?_
    exact arv [.ren [0, 1] []] ⟨rfl, h⟩
   refine nN K (tn 5) ?_
   refine VW.cond (b := false) (by kernel_rfl) (fun h' => nomatch h') (fun _ => ?_)
   refine VW.exit ?_
   exact arv [.ren [0, 1] []] ⟨rfl, h⟩
 rintro s ⟨rfl, h⟩
 unfold F65_j0 at h
 refine nR K (tn 6) ?_
 cases h; exact VW.ret (rt [])
def F18_j0 (N : Nat) : Option (Bool) :=
  some true
def F18_j1 (N : Nat) (nx110 : Int → Option (Bool)) (x88 : Int) : Option (Bool) :=
  nx110 (IntKind.i64.wrap (x88 + (1 : Int)))
def F18_l0_b (N : Nat) (a0 : (List Z77)) (nx110 : Int → Option (Bool)) (x88 : Int) : Option (Bool) :=
  cond (decide (x88 < (a0.length : Int))) (gd (InR x88 a0.length) (andO (F63 N ((a0.getD x88.toNat (Ty.dflt Y77)).1)) fun y123 => cond (!y123) (some false) (gd (InR x88 a0.length) (andO (F64 N ((a0.getD x88.toNat (Ty.dflt Y77)).2) (1 : Int) (6 : Int)) fun y126 => cond (!y126) (some false) (cond (decide (x88 > (0 : Int))) (gd (InR (IntKind.i64.wrap (x88 - (1 : Int))) a0.length) (gd (InR x88 a0.length) (andO (F65 N ((a0.getD (IntKind.i64.wrap (x88 - (1 : Int))).toNat (Ty.dflt Y77)).1) ((a0.getD x88.toNat (Ty.dflt Y77)).1)) fun y131 => cond (!y131) (some false) (F18_j1 N nx110 x88)))) (F18_j1 N nx110 x88)))))) (F18_j0 N)
def F18_l0 (N : Nat) (a0 : (List Z77)) := loopF (F18_l0_b N a0) (fun _ => none)
theorem F18_l0_s N a0 {k} (hk : 0 < k) x88 : F18_l0 N a0 k x88 = F18_l0_b N a0 (F18_l0 N a0 (k - 1)) x88 := by cases k;cases hk;rfl
def F18 (N : Nat) (a0 : (List Z77)) : Option (Bool) :=
  cond (decide ((a0.length : Int) > (8 : Int))) (some false) (F18_l0 N a0 N (0 : Int))
theorem ok18 N a0 {r} (h : F18 N a0 = some r) : Con prog 18 [Vv (.sl Y77) a0] [.lf (.v .bool r)] := by
 refine ctr [.lf (.v .bool)] K func18 rfl fun w0 E0 ht => ?_
 unfold F18 at h
 show VW _ _ _ _ _ (retQ _ _ _ _) _
 refine nR K (tn 1) <| sq <| nR K (tn 3) ?_
 refine cnd h ?_ ?_<;>intro h
 ·refine nR K (tn 1) ?_
  cases h; exact VW.ret (rt [])
 refine VW.skip ?_
 refine VW.join (fun s => s = ⟨[], []⟩ ∧ F18_j0 N = some r) ?_ ?_
 ·refine nR K (tn 1) <| VW.block <| lop (fun k s => ∃ x88, s = ⟨[(0, Vv (.sl Y77) a0), (3, I x88)], []⟩ ∧ F18_l0 N a0 k x88 = some r) N [.ren [0, 3] []] ⟨(0 : Int), rfl, h⟩ ?_
  rintro k110 s ⟨x88, rfl, h⟩
  cases k110 with
  | zero => cases show none = some r from h
  | succ k110 =>
   replace h : F18_l0_b N a0 (F18_l0 N a0 k110) x88 = some r := h
   unfold F18_l0_b at h
   refine sq <| nR K (tn 4) ?_
   refine cnd h ?_ ?_<;>intro h
   ·refine VW.skip ?_
    refine VW.join (fun s => s = ⟨[(0, Vv (.sl Y77) a0), (3, I x88)], []⟩ ∧ F18_j1 N (F18_l0 N a0 k110) x88 = some r) ?_ ?_
    ·refine VW.block <| sq ?_
     obtain⟨g122,h⟩:=gS h
     obtain⟨y123,hy123,h⟩:=aS h
     rcases Bool.eq_false_or_eq_true (!y123) with hb124 | hb124
     ·replace h := cond_t h hb124
      refine dr K [(5, .cl [] (some 18) [.lf (.v .bool y123)]), (7, .lit true)] [(5, 0), (7, 0)] [] [0, 3, 47] [] (pu 2 (an g122 (tn 32))) ⟨qC false [.t .str] [] [] (some 18) K (ok63 N _ hy123), qB 20 hb124 K trivial, trivial⟩ ?_
      refine VW.cond (b := true) (by kernel_rfl) (fun _ => ?_) (fun h' => nomatch h')
      refine nR K (tn 1) ?_
      cases h; exact VW.ret (rt [])
     replace h := cond_f h hb124
     obtain⟨g125,h⟩:=gS h
     obtain⟨y126,hy126,h⟩:=aS h
     rcases Bool.eq_false_or_eq_true (!y126) with hb127 | hb127
     ·replace h := cond_t h hb127
      refine dr K [(5, .cl [] (some 18) [.lf (.v .bool y123)]), (7, .lit false), (13, .cl [] (some 26) [.lf (.v .bool y126)]), (16, .lit true)] [(5, 0), (7, 0), (13, 0), (16, 0)] [] [0, 3, 47] [] (pu 2 (an g122 (pu 7 (an g125 (tn 24))))) ⟨qC false [.t .str] [] [] (some 18) K (ok63 N _ hy123), qB 20 hb124 K trivial, qC false [.t (.int .i64), .t (.int .i64), .t (.int .i64)] [] [] (some 26) K (ok64 N _ _ _ hy126), qB 29 hb127 K trivial, trivial⟩ ?_
      refine VW.cond (b := true) (by kernel_rfl) (fun _ => ?_) (fun h' => nomatch h')
      refine nR K (tn 1) ?_
      cases h; exact VW.ret (rt [])
     replace h := cond_f h hb127
     rcases Bool.eq_false_or_eq_true (decide (x88 > (0 : Int))) with hb128 | hb128
     ·replace h := cond_t h hb128
      obtain⟨g129,h⟩:=gS h
      obtain⟨g130,h⟩:=gS h
      obtain⟨y131,hy131,h⟩:=aS h
      refine dr K [(5, .cl [] (some 18) [.lf (.v .bool y123)]), (7, .lit false), (13, .cl [] (some 26) [.lf (.v .bool y126)]), (16, .lit false), (19, .lit true), (31, .cl [] (some 44) [.lf (.v .bool y131)])] [(5, 0), (7, 0), (13, 0), (16, 0), (19, 0), (31, 0)] [] [0, 3, 47] [] (pu 2 (an g122 (pu 7 (an g125 (pu 12 (an g129 (pu 4 (an g130 (tn 6))))))))) ⟨qC false [.t .str] [] [] (some 18) K (ok63 N _ hy123), qB 20 hb124 K trivial, qC false [.t (.int .i64), .t (.int .i64), .t (.int .i64)] [] [] (some 26) K (ok64 N _ _ _ hy126), qB 29 hb127 K trivial, qB 32 hb128 K trivial, qC false [.t .str, .t .str] [] [] (some 44) K (ok65 N _ _ hy131), trivial⟩ ?_
      refine cnd h ?_ ?_<;>intro h
      ·refine nR K (tn 1) ?_
       cases h; exact VW.ret (rt [])
      refine VW.skip ?_
      exact arv [.ren [0, 3] []] ⟨rfl, h⟩
     replace h := cond_f h hb128
     refine dr K [(5, .cl [] (some 18) [.lf (.v .bool y123)]), (7, .lit false), (13, .cl [] (some 26) [.lf (.v .bool y126)]), (16, .lit false), (19, .lit false)] [(5, 0), (7, 0), (13, 0), (16, 0), (19, 0)] [] [0, 3, 47] [] (pu 2 (an g122 (pu 7 (an g125 (tn 24))))) ⟨qC false [.t .str] [] [] (some 18) K (ok63 N _ hy123), qB 20 hb124 K trivial, qC false [.t (.int .i64), .t (.int .i64), .t (.int .i64)] [] [] (some 26) K (ok64 N _ _ _ hy126), qB 29 hb127 K trivial, qB 32 hb128 K trivial, trivial⟩ ?_
     refine VW.cond (b := false) (by kernel_rfl) (fun h' => nomatch h') (fun _ => ?_)
     refine VW.skip ?_
     exact arv [.ren [0, 3] []] ⟨rfl, h⟩
    rintro s ⟨rfl, h⟩
    unfold F18_j1 at h
    refine nE K (tn 3) ?_
    exact aro [.ren [0, 3] []] ⟨(wr (x88 + (1 : Int))), rfl, h⟩
   refine VW.exit ?_
   exact arv [.ren [] []] ⟨rfl, h⟩
 rintro s ⟨rfl, h⟩
 unfold F18_j0 at h
 refine nR K (tn 1) ?_
 cases h; exact VW.ret (rt [])
def F123 (N : Nat) (a0 : Int) : Option (Bool) :=
  andO (F64 N a0 (0 : Int) (63 : Int)) fun y1 => some y1
theorem ok123 N a0 {r} (h : F123 N a0 = some r) : Con prog 123 [I a0] [.lf (.v .bool r)] := by
 refine ctr [.lf (.v .bool)] K func123 rfl fun w0 E0 ht => ?_
 unfold F123 at h
 show VW _ _ _ _ _ (retQ _ _ _ _) _
 refine nR K (tn 1) <| sq <| VW.region <| nG K 1 (tn 1) ?_
 obtain⟨y1,hy,h⟩:=aS h
 refine clc false [.t (.int .i64), .t (.int .i64), .t (.int .i64)] [] (some 4) K (ok64 N _ _ _ hy) <| nN K (tn 1) ?_
 cases h; exact VW.ret (rt [])
def F124 (N : Nat) (a0 : Int) : Option (Bool) :=
  andO (F64 N a0 (-1000000 : Int) (1000000 : Int)) fun y1 => some y1
theorem ok124 N a0 {r} (h : F124 N a0 = some r) : Con prog 124 [I a0] [.lf (.v .bool r)] := by
 refine ctr [.lf (.v .bool)] K func124 rfl fun w0 E0 ht => ?_
 unfold F124 at h
 show VW _ _ _ _ _ (retQ _ _ _ _) _
 refine nR K (tn 1) <| sq <| VW.region <| nG K 1 (tn 1) ?_
 obtain⟨y1,hy,h⟩:=aS h
 refine clc false [.t (.int .i64), .t (.int .i64), .t (.int .i64)] [] (some 4) K (ok64 N _ _ _ hy) <| nN K (tn 1) ?_
 cases h; exact VW.ret (rt [])
def F87_j0 (N : Nat) : Option (Bool) :=
  some false
def F87_j1 (N : Nat) (x11 : Int) (x13 : Int) (x14 : Bool) (x15 : (List Int)) : Option (Bool) :=
  andO (F64 N (x15.length : Int) (1 : Int) (6 : Int)) fun y75 => cond y75 (cond (x11 == (0 : Int)) (cond (x13 == (0 : Int)) (some (!x14)) (some false)) (some false)) (some false)
def F87_l0_b (N : Nat) (x11 : Int) (x13 : Int) (x14 : Bool) (x15 : (List Int)) (nx86 : Int → Option (Bool)) (x81 : Int) : Option (Bool) :=
  cond (decide (x81 < (x15.length : Int))) (gd (InR x81 x15.length) (andO (F123 N (x15.getD x81.toNat (Ty.dflt (.int .i64)))) fun y90 => cond (!y90) (some false) (nx86 (IntKind.i64.wrap (x81 + (1 : Int)))))) (F87_j1 N x11 x13 x14 x15)
def F87_l0 (N : Nat) (x11 : Int) (x13 : Int) (x14 : Bool) (x15 : (List Int)) := loopF (F87_l0_b N x11 x13 x14 x15) (fun _ => none)
theorem F87_l0_s N x11 x13 x14 x15 {k} (hk : 0 < k) x81 : F87_l0 N x11 x13 x14 x15 k x81 = F87_l0_b N x11 x13 x14 x15 (F87_l0 N x11 x13 x14 x15 (k - 1)) x81 := by cases k;cases hk;rfl
def F87_j2 (N : Nat) (x11 : Int) (x13 : Int) (x14 : Bool) (x95 : Bool) : Option (Bool) :=
  cond x95 (cond (x11 == (0 : Int)) (cond (x13 == (0 : Int)) (some (!x14)) (some false)) (some false)) (F87_j0 N)
def F87_j3 (N : Nat) (x9 : Int) (x10 : ByteArray) (x11 : Int) (x12 : Int) (x13 : Int) (x14 : Bool) (x15 : (List Int)) : Option (Bool) :=
  cond (x9 == (0 : Int)) (andO (F63 N x10) fun y57 => cond y57 (cond (x11 == (0 : Int)) (cond (x13 == (0 : Int)) (some (!x14)) (some false)) (some false)) (some false)) (cond (x9 == (1 : Int)) (andO (F123 N x11) fun y58 => cond y58 (andO (F64 N x12 (0 : Int) (3 : Int)) fun y59 => cond y59 (andO (F124 N x13) fun y60 => cond y60 (cond (x12 != (3 : Int)) (some true) (cond (x13 == (0 : Int)) (some (!x14)) (some false))) (some false)) (some false)) (some false)) (cond (x9 == (2 : Int)) (F87_l0 N x11 x13 x14 x15 N (0 : Int)) (cond (x9 == (3 : Int)) (andO (F123 N x11) fun y91 => cond y91 (andO (F123 N x13) fun y92 => cond y92 (some (!x14)) (some false)) (some false)) (cond (x9 == (5 : Int)) (andO (F123 N x11) fun y93 => cond y93 (cond (x13 == (0 : Int)) (some (!x14)) (some false)) (some false)) (cond (x9 == (6 : Int)) (cond (x11 == (0 : Int)) (andO (F64 N x13 (0 : Int) (1000000 : Int)) fun y94 => some y94) (some false)) (cond (x9 == (4 : Int)) (F87_j2 N x11 x13 x14 (x9 == (4 : Int))) (F87_j2 N x11 x13 x14 (x9 == (7 : Int)))))))))
def F87 (N : Nat) (a0 : Z73) : Option (Bool) :=
  cond (a0.1 != (0 : Int)) (cond (!(a0.2.1.toList == ByteArray.empty.toList)) (some false) (cond (a0.1 != (2 : Int)) (cond (decide ((a0.2.2.2.2.2.2.length : Int) > (0 : Int))) (some false) (cond (a0.1 != (1 : Int)) (cond (a0.2.2.2.1 != (0 : Int)) (some false) (cond a0.2.2.2.2.2.1 (andO (F64 N a0.2.2.2.2.1 (0 : Int) (39 : Int)) fun y98 => cond (!y98) (some false) (F87_j3 N a0.1 a0.2.1 a0.2.2.1 a0.2.2.2.1 a0.2.2.2.2.1 a0.2.2.2.2.2.1 a0.2.2.2.2.2.2)) (F87_j3 N a0.1 a0.2.1 a0.2.2.1 a0.2.2.2.1 a0.2.2.2.2.1 a0.2.2.2.2.2.1 a0.2.2.2.2.2.2))) (cond a0.2.2.2.2.2.1 (andO (F64 N a0.2.2.2.2.1 (0 : Int) (39 : Int)) fun y99 => cond (!y99) (some false) (F87_j3 N a0.1 a0.2.1 a0.2.2.1 a0.2.2.2.1 a0.2.2.2.2.1 a0.2.2.2.2.2.1 a0.2.2.2.2.2.2)) (F87_j3 N a0.1 a0.2.1 a0.2.2.1 a0.2.2.2.1 a0.2.2.2.2.1 a0.2.2.2.2.2.1 a0.2.2.2.2.2.2)))) (cond (a0.1 != (1 : Int)) (cond (a0.2.2.2.1 != (0 : Int)) (some false) (cond a0.2.2.2.2.2.1 (andO (F64 N a0.2.2.2.2.1 (0 : Int) (39 : Int)) fun y100 => cond (!y100) (some false) (F87_j3 N a0.1 a0.2.1 a0.2.2.1 a0.2.2.2.1 a0.2.2.2.2.1 a0.2.2.2.2.2.1 a0.2.2.2.2.2.2)) (F87_j3 N a0.1 a0.2.1 a0.2.2.1 a0.2.2.2.1 a0.2.2.2.2.1 a0.2.2.2.2.2.1 a0.2.2.2.2.2.2))) (cond a0.2.2.2.2.2.1 (andO (F64 N a0.2.2.2.2.1 (0 : Int) (39 : Int)) fun y101 => cond (!y101) (some false) (F87_j3 N a0.1 a0.2.1 a0.2.2.1 a0.2.2.2.1 a0.2.2.2.2.1 a0.2.2.2.2.2.1 a0.2.2.2.2.2.2)) (F87_j3 N a0.1 a0.2.1 a0.2.2.1 a0.2.2.2.1 a0.2.2.2.2.1 a0.2.2.2.2.2.1 a0.2.2.2.2.2.2))))) (cond (a0.1 != (2 : Int)) (cond (decide ((a0.2.2.2.2.2.2.length : Int) > (0 : Int))) (some false) (cond (a0.1 != (1 : Int)) (cond (a0.2.2.2.1 != (0 : Int)) (some false) (cond a0.2.2.2.2.2.1 (andO (F64 N a0.2.2.2.2.1 (0 : Int) (39 : Int)) fun y102 => cond (!y102) (some false) (F87_j3 N a0.1 a0.2.1 a0.2.2.1 a0.2.2.2.1 a0.2.2.2.2.1 a0.2.2.2.2.2.1 a0.2.2.2.2.2.2)) (F87_j3 N a0.1 a0.2.1 a0.2.2.1 a0.2.2.2.1 a0.2.2.2.2.1 a0.2.2.2.2.2.1 a0.2.2.2.2.2.2))) (cond a0.2.2.2.2.2.1 (andO (F64 N a0.2.2.2.2.1 (0 : Int) (39 : Int)) fun y103 => cond (!y103) (some false) (F87_j3 N a0.1 a0.2.1 a0.2.2.1 a0.2.2.2.1 a0.2.2.2.2.1 a0.2.2.2.2.2.1 a0.2.2.2.2.2.2)) (F87_j3 N a0.1 a0.2.1 a0.2.2.1 a0.2.2.2.1 a0.2.2.2.2.1 a0.2.2.2.2.2.1 a0.2.2.2.2.2.2)))) (cond (a0.1 != (1 : Int)) (cond (a0.2.2.2.1 != (0 : Int)) (some false) (cond a0.2.2.2.2.2.1 (andO (F64 N a0.2.2.2.2.1 (0 : Int) (39 : Int)) fun y104 => cond (!y104) (some false) (F87_j3 N a0.1 a0.2.1 a0.2.2.1 a0.2.2.2.1 a0.2.2.2.2.1 a0.2.2.2.2.2.1 a0.2.2.2.2.2.2)) (F87_j3 N a0.1 a0.2.1 a0.2.2.1 a0.2.2.2.1 a0.2.2.2.2.1 a0.2.2.2.2.2.1 a0.2.2.2.2.2.2))) (cond a0.2.2.2.2.2.1 (andO (F64 N a0.2.2.2.2.1 (0 : Int) (39 : Int)) fun y105 => cond (!y105) (some false) (F87_j3 N a0.1 a0.2.1 a0.2.2.1 a0.2.2.2.1 a0.2.2.2.2.1 a0.2.2.2.2.2.1 a0.2.2.2.2.2.2)) (F87_j3 N a0.1 a0.2.1 a0.2.2.1 a0.2.2.2.1 a0.2.2.2.2.1 a0.2.2.2.2.2.1 a0.2.2.2.2.2.2))))
theorem ok87 N a0 {r} (h : F87 N a0 = some r) : Con prog 87 [.agg (lv Y73 a0)] [.lf (.v .bool r)] := by
 refine ctr [.lf (.v .bool)] K func87 rfl fun w0 E0 ht => ?_
 unfold F87 at h
 show VW _ _ _ _ _ (retQ _ _ _ _) _
 refine nR K (tn 2) ?_
 refine VW.join (fun s => ∃ x9 x10 x11 x12 x13 x14 x15, s = ⟨[(1, .lf (.ptr 0 0 0 0))], [bx [zi x9, zs x10, zi x11, zi x12, zi x13, zb x14, .v (.sl (.int .i64)) x15] 74]⟩ ∧ F87_j3 N x9 x10 x11 x12 x13 x14 x15 = some r) ?_ ?_
 ·refine sq <| VW.region <| nG K 4 (tn 4) ?_
  refine spC 7 h ?_ ?_<;>intro h
  ·refine nG K 5 (tn 5) ?_
   refine spC 12 h ?_ ?_<;>intro h
   ·refine nN K (tn 30) ?_
    refine VW.cond (b := true) (by kernel_rfl) (fun _ => ?_) (fun h' => nomatch h')
    refine nR K (tn 1) ?_
    cases h; exact VW.ret (rt [])
   refine nG K 4 (tn 4) ?_
   refine spC 16 h ?_ ?_<;>intro h
   ·refine nG K 7 (tn 7) ?_
    refine spC 23 h ?_ ?_<;>intro h
    ·refine nN K (tn 19) ?_
     refine VW.cond (b := true) (by kernel_rfl) (fun _ => ?_) (fun h' => nomatch h')
     refine nR K (tn 1) ?_
     cases h; exact VW.ret (rt [])
    refine nG K 4 (tn 4) ?_
    refine spC 27 h ?_ ?_<;>intro h
    ·refine nG K 6 (tn 6) ?_
     refine spC 33 h ?_ ?_<;>intro h
     ·refine nN K (tn 9) ?_
      refine VW.cond (b := true) (by kernel_rfl) (fun _ => ?_) (fun h' => nomatch h')
      refine nR K (tn 1) ?_
      cases h; exact VW.ret (rt [])
     refine nG K 3 (tn 3) ?_
     refine spC 36 h ?_ ?_<;>intro h
     ·refine nG K 2 (tn 2) <| VO.on (j := 32) (want := true) (d := 36) (b := true) rfl rfl rfl (by kernel_rfl) rfl ?_
      obtain⟨y98,hy,h⟩:=aS h
      refine clc false [.t (.int .i64), .t (.int .i64), .t (.int .i64)] [] (some 39) K (ok64 N _ _ _ hy) <| nN K (tn 3) ?_
      refine cnd h ?_ ?_<;>intro h
      ·refine nR K (tn 1) ?_
       cases h; exact VW.ret (rt [])
      refine VW.skip ?_
      exact arv [.ren [1] [0]] ⟨a0.1, a0.2.1, a0.2.2.1, a0.2.2.2.1, a0.2.2.2.2.1, a0.2.2.2.2.2.1, a0.2.2.2.2.2.2, rfl, h⟩
     refine nN K (tn 6) ?_
     refine VW.cond (b := false) (by kernel_rfl) (fun h' => nomatch h') (fun _ => ?_)
     refine VW.skip ?_
     exact arv [.ren [1] [0]] ⟨a0.1, a0.2.1, a0.2.2.1, a0.2.2.2.1, a0.2.2.2.2.1, a0.2.2.2.2.2.1, a0.2.2.2.2.2.2, rfl, h⟩
    refine nG K 9 (tn 9) ?_
    refine spC 36 h ?_ ?_<;>intro h
    ·refine nG K 2 (tn 2) <| VO.on (j := 32) (want := true) (d := 36) (b := true) rfl rfl rfl (by kernel_rfl) rfl ?_
     obtain⟨y99,hy,h⟩:=aS h
     refine clc false [.t (.int .i64), .t (.int .i64), .t (.int .i64)] [] (some 39) K (ok64 N _ _ _ hy) <| nN K (tn 3) ?_
     refine cnd h ?_ ?_<;>intro h
     ·refine nR K (tn 1) ?_
      cases h; exact VW.ret (rt [])
     refine VW.skip ?_
     exact arv [.ren [1] [0]] ⟨a0.1, a0.2.1, a0.2.2.1, a0.2.2.2.1, a0.2.2.2.2.1, a0.2.2.2.2.2.1, a0.2.2.2.2.2.2, rfl, h⟩
    refine nN K (tn 6) ?_
    refine VW.cond (b := false) (by kernel_rfl) (fun h' => nomatch h') (fun _ => ?_)
    refine VW.skip ?_
    exact arv [.ren [1] [0]] ⟨a0.1, a0.2.1, a0.2.2.1, a0.2.2.2.1, a0.2.2.2.2.1, a0.2.2.2.2.2.1, a0.2.2.2.2.2.2, rfl, h⟩
   refine nG K 11 (tn 11) ?_
   refine spC 27 h ?_ ?_<;>intro h
   ·refine nG K 6 (tn 6) ?_
    refine spC 33 h ?_ ?_<;>intro h
    ·refine nN K (tn 9) ?_
     refine VW.cond (b := true) (by kernel_rfl) (fun _ => ?_) (fun h' => nomatch h')
     refine nR K (tn 1) ?_
     cases h; exact VW.ret (rt [])
    refine nG K 3 (tn 3) ?_
    refine spC 36 h ?_ ?_<;>intro h
    ·refine nG K 2 (tn 2) <| VO.on (j := 32) (want := true) (d := 36) (b := true) rfl rfl rfl (by kernel_rfl) rfl ?_
     obtain⟨y100,hy,h⟩:=aS h
     refine clc false [.t (.int .i64), .t (.int .i64), .t (.int .i64)] [] (some 39) K (ok64 N _ _ _ hy) <| nN K (tn 3) ?_
     refine cnd h ?_ ?_<;>intro h
     ·refine nR K (tn 1) ?_
      cases h; exact VW.ret (rt [])
     refine VW.skip ?_
     exact arv [.ren [1] [0]] ⟨a0.1, a0.2.1, a0.2.2.1, a0.2.2.2.1, a0.2.2.2.2.1, a0.2.2.2.2.2.1, a0.2.2.2.2.2.2, rfl, h⟩
    refine nN K (tn 6) ?_
    refine VW.cond (b := false) (by kernel_rfl) (fun h' => nomatch h') (fun _ => ?_)
    refine VW.skip ?_
    exact arv [.ren [1] [0]] ⟨a0.1, a0.2.1, a0.2.2.1, a0.2.2.2.1, a0.2.2.2.2.1, a0.2.2.2.2.2.1, a0.2.2.2.2.2.2, rfl, h⟩
   refine nG K 9 (tn 9) ?_
   refine spC 36 h ?_ ?_<;>intro h
   ·refine nG K 2 (tn 2) <| VO.on (j := 32) (want := true) (d := 36) (b := true) rfl rfl rfl (by kernel_rfl) rfl ?_
    obtain⟨y101,hy,h⟩:=aS h
    refine clc false [.t (.int .i64), .t (.int .i64), .t (.int .i64)] [] (some 39) K (ok64 N _ _ _ hy) <| nN K (tn 3) ?_
    refine cnd h ?_ ?_<;>intro h
    ·refine nR K (tn 1) ?_
     cases h; exact VW.ret (rt [])
    refine VW.skip ?_
    exact arv [.ren [1] [0]] ⟨a0.1, a0.2.1, a0.2.2.1, a0.2.2.2.1, a0.2.2.2.2.1, a0.2.2.2.2.2.1, a0.2.2.2.2.2.2, rfl, h⟩
   refine nN K (tn 6) ?_
   refine VW.cond (b := false) (by kernel_rfl) (fun h' => nomatch h') (fun _ => ?_)
   refine VW.skip ?_
   exact arv [.ren [1] [0]] ⟨a0.1, a0.2.1, a0.2.2.1, a0.2.2.2.1, a0.2.2.2.2.1, a0.2.2.2.2.2.1, a0.2.2.2.2.2.2, rfl, h⟩
  refine nG K 9 (tn 9) ?_
  refine spC 16 h ?_ ?_<;>intro h
  ·refine nG K 7 (tn 7) ?_
   refine spC 23 h ?_ ?_<;>intro h
   ·refine nN K (tn 19) ?_
    refine VW.cond (b := true) (by kernel_rfl) (fun _ => ?_) (fun h' => nomatch h')
    refine nR K (tn 1) ?_
    cases h; exact VW.ret (rt [])
   refine nG K 4 (tn 4) ?_
   refine spC 27 h ?_ ?_<;>intro h
   ·refine nG K 6 (tn 6) ?_
    refine spC 33 h ?_ ?_<;>intro h
    ·refine nN K (tn 9) ?_
     refine VW.cond (b := true) (by kernel_rfl) (fun _ => ?_) (fun h' => nomatch h')
     refine nR K (tn 1) ?_
     cases h; exact VW.ret (rt [])
    refine nG K 3 (tn 3) ?_
    refine spC 36 h ?_ ?_<;>intro h
    ·refine nG K 2 (tn 2) <| VO.on (j := 32) (want := true) (d := 36) (b := true) rfl rfl rfl (by kernel_rfl) rfl ?_
     obtain⟨y102,hy,h⟩:=aS h
     refine clc false [.t (.int .i64), .t (.int .i64), .t (.int .i64)] [] (some 39) K (ok64 N _ _ _ hy) <| nN K (tn 3) ?_
     refine cnd h ?_ ?_<;>intro h
     ·refine nR K (tn 1) ?_
      cases h; exact VW.ret (rt [])
     refine VW.skip ?_
     exact arv [.ren [1] [0]] ⟨a0.1, a0.2.1, a0.2.2.1, a0.2.2.2.1, a0.2.2.2.2.1, a0.2.2.2.2.2.1, a0.2.2.2.2.2.2, rfl, h⟩
    refine nN K (tn 6) ?_
    refine VW.cond (b := false) (by kernel_rfl) (fun h' => nomatch h') (fun _ => ?_)
    refine VW.skip ?_
    exact arv [.ren [1] [0]] ⟨a0.1, a0.2.1, a0.2.2.1, a0.2.2.2.1, a0.2.2.2.2.1, a0.2.2.2.2.2.1, a0.2.2.2.2.2.2, rfl, h⟩
   refine nG K 9 (tn 9) ?_
   refine spC 36 h ?_ ?_<;>intro h
   ·refine nG K 2 (tn 2) <| VO.on (j := 32) (want := true) (d := 36) (b := true) rfl rfl rfl (by kernel_rfl) rfl ?_
    obtain⟨y103,hy,h⟩:=aS h
    refine clc false [.t (.int .i64), .t (.int .i64), .t (.int .i64)] [] (some 39) K (ok64 N _ _ _ hy) <| nN K (tn 3) ?_
    refine cnd h ?_ ?_<;>intro h
    ·refine nR K (tn 1) ?_
     cases h; exact VW.ret (rt [])
    refine VW.skip ?_
    exact arv [.ren [1] [0]] ⟨a0.1, a0.2.1, a0.2.2.1, a0.2.2.2.1, a0.2.2.2.2.1, a0.2.2.2.2.2.1, a0.2.2.2.2.2.2, rfl, h⟩
   refine nN K (tn 6) ?_
   refine VW.cond (b := false) (by kernel_rfl) (fun h' => nomatch h') (fun _ => ?_)
   refine VW.skip ?_
   exact arv [.ren [1] [0]] ⟨a0.1, a0.2.1, a0.2.2.1, a0.2.2.2.1, a0.2.2.2.2.1, a0.2.2.2.2.2.1, a0.2.2.2.2.2.2, rfl, h⟩
  refine nG K 11 (tn 11) ?_
  refine spC 27 h ?_ ?_<;>intro h
  ·refine nG K 6 (tn 6) ?_
   refine spC 33 h ?_ ?_<;>intro h
   ·refine nN K (tn 9) ?_
    refine VW.cond (b := true) (by kernel_rfl) (fun _ => ?_) (fun h' => nomatch h')
    refine nR K (tn 1) ?_
    cases h; exact VW.ret (rt [])
   refine nG K 3 (tn 3) ?_
   refine spC 36 h ?_ ?_<;>intro h
   ·refine nG K 2 (tn 2) <| VO.on (j := 32) (want := true) (d := 36) (b := true) rfl rfl rfl (by kernel_rfl) rfl ?_
    obtain⟨y104,hy,h⟩:=aS h
    refine clc false [.t (.int .i64), .t (.int .i64), .t (.int .i64)] [] (some 39) K (ok64 N _ _ _ hy) <| nN K (tn 3) ?_
    refine cnd h ?_ ?_<;>intro h
    ·refine nR K (tn 1) ?_
     cases h; exact VW.ret (rt [])
    refine VW.skip ?_
    exact arv [.ren [1] [0]] ⟨a0.1, a0.2.1, a0.2.2.1, a0.2.2.2.1, a0.2.2.2.2.1, a0.2.2.2.2.2.1, a0.2.2.2.2.2.2, rfl, h⟩
   refine nN K (tn 6) ?_
   refine VW.cond (b := false) (by kernel_rfl) (fun h' => nomatch h') (fun _ => ?_)
   refine VW.skip ?_
   exact arv [.ren [1] [0]] ⟨a0.1, a0.2.1, a0.2.2.1, a0.2.2.2.1, a0.2.2.2.2.1, a0.2.2.2.2.2.1, a0.2.2.2.2.2.2, rfl, h⟩
  refine nG K 9 (tn 9) ?_
  refine spC 36 h ?_ ?_<;>intro h
  ·refine nG K 2 (tn 2) <| VO.on (j := 32) (want := true) (d := 36) (b := true) rfl rfl rfl (by kernel_rfl) rfl ?_
   obtain⟨y105,hy,h⟩:=aS h
   refine clc false [.t (.int .i64), .t (.int .i64), .t (.int .i64)] [] (some 39) K (ok64 N _ _ _ hy) <| nN K (tn 3) ?_
   refine cnd h ?_ ?_<;>intro h
   ·refine nR K (tn 1) ?_
    cases h; exact VW.ret (rt [])
   refine VW.skip ?_
   exact arv [.ren [1] [0]] ⟨a0.1, a0.2.1, a0.2.2.1, a0.2.2.2.1, a0.2.2.2.2.1, a0.2.2.2.2.2.1, a0.2.2.2.2.2.2, rfl, h⟩
  refine nN K (tn 6) ?_
  refine VW.cond (b := false) (by kernel_rfl) (fun h' => nomatch h') (fun _ => ?_)
  refine VW.skip ?_
  exact arv [.ren [1] [0]] ⟨a0.1, a0.2.1, a0.2.2.1, a0.2.2.2.1, a0.2.2.2.2.1, a0.2.2.2.2.2.1, a0.2.2.2.2.2.2, rfl, h⟩
 rintro s ⟨x9, x10, x11, x12, x13, x14, x15, rfl, h⟩
 unfold F87_j3 at h
 refine VW.join (fun s => s = ⟨[], []⟩ ∧ F87_j0 N = some r) ?_ ?_
 ·refine nR K (tn 2) <| VW.block <| nR K (tn 2) ?_
  refine cnd h ?_ ?_<;>intro h
  ·refine sq <| VW.region <| nG K 2 (tn 2) ?_
   obtain⟨y57,hy,h⟩:=aS h
   refine clc false [.t .str] [] (some 49) K (ok63 N _ hy) <| nG K 1 (tn 1) ?_
   refine spC 50 h ?_ ?_<;>intro h
   ·refine nG K 5 (tn 5) ?_
    refine spC 55 h ?_ ?_<;>intro h
    ·refine nG K 5 (tn 5) ?_
     refine spC 60 h ?_ ?_<;>intro h
     ·refine nN K (tn 5) ?_
      cases h; exact VW.ret (rt [])
     refine nN K (tn 5) ?_
     cases h; exact VW.ret (rt [])
    refine nN K (tn 10) ?_
    cases h; exact VW.ret (rt [])
   refine nN K (tn 15) ?_
   cases h; exact VW.ret (rt [])
  refine nR K (tn 2) ?_
  refine cnd h ?_ ?_<;>intro h
  ·refine sq <| VW.region <| nG K 2 (tn 2) ?_
   obtain⟨y58,hy,h⟩:=aS h
   refine clc false [.t (.int .i64)] [] (some 69) K (ok123 N _ hy) <| nG K 1 (tn 1) ?_
   refine spC 70 h ?_ ?_<;>intro h
   ·refine nG K 2 (tn 2) <| VO.on (j := 3) (want := true) (d := 70) (b := true) rfl rfl rfl (by kernel_rfl) rfl ?_
    obtain⟨y59,hy,h⟩:=aS h
    refine clc false [.t (.int .i64), .t (.int .i64), .t (.int .i64)] [] (some 73) K (ok64 N _ _ _ hy) <| nG K 2 (tn 2) ?_
    refine spC 75 h ?_ ?_<;>intro h
    ·refine nG K 2 (tn 2) <| VO.on (j := 8) (want := true) (d := 75) (b := true) rfl rfl rfl (by kernel_rfl) rfl ?_
     obtain⟨y60,hy,h⟩:=aS h
     refine clc false [.t (.int .i64)] [] (some 78) K (ok124 N _ hy) <| nG K 2 (tn 2) ?_
     refine spC 80 h ?_ ?_<;>intro h
     ·refine nG K 4 (tn 4) ?_
      refine spC 84 h ?_ ?_<;>intro h
      ·refine nN K (tn 11) ?_
       cases h; exact VW.ret (rt [])
      refine nG K 4 (tn 4) ?_
      refine spC 88 h ?_ ?_<;>intro h
      ·refine nN K (tn 7) ?_
       cases h; exact VW.ret (rt [])
      refine nN K (tn 7) ?_
      cases h; exact VW.ret (rt [])
     refine nN K (tn 15) ?_
     cases h; exact VW.ret (rt [])
    refine nN K (tn 20) ?_
    cases h; exact VW.ret (rt [])
   refine nN K (tn 25) ?_
   cases h; exact VW.ret (rt [])
  refine nR K (tn 2) ?_
  refine cnd h ?_ ?_<;>intro h
  ·refine VW.join (fun s => s = ⟨[(1, .lf (.ptr 0 0 0 0))], [bx [zi x9, zs x10, zi x11, zi x12, zi x13, zb x14, .v (.sl (.int .i64)) x15] 74]⟩ ∧ F87_j1 N x11 x13 x14 x15 = some r) ?_ ?_
   ·refine nR K (tn 1) <| VW.block <| lop (fun k s => ∃ x81, s = ⟨[(1, .lf (.ptr 0 0 0 0)), (3, I x81)], [bx [zi x9, zs x10, zi x11, zi x12, zi x13, zb x14, .v (.sl (.int .i64)) x15] 74]⟩ ∧ F87_l0 N x11 x13 x14 x15 k x81 = some r) N [.ren [1, 3] [0]] ⟨(0 : Int), rfl, h⟩ ?_
    rintro k86 s ⟨x81, rfl, h⟩
    cases k86 with
    | zero => cases show none = some r from h
    | succ k86 =>
     replace h : F87_l0_b N x11 x13 x14 x15 (F87_l0 N x11 x13 x14 x15 k86) x81 = some r := h
     unfold F87_l0_b at h
     refine sq <| nR K (tn 5) ?_
     refine cnd h ?_ ?_<;>intro h
     ·refine VW.skip <| sq <| VW.block <| sq <| VW.region ?_
      obtain⟨g89,h⟩:=gS h
      refine nG K 5 (pu 3 (an g89 (tn 1))) ?_
      obtain⟨y90,hy,h⟩:=aS h
      refine clc false [.t (.int .i64)] [] (some 109) K (ok123 N _ hy) <| nN K (tn 1) ?_
      refine cnd h ?_ ?_<;>intro h
      ·refine nR K (tn 1) ?_
       cases h; exact VW.ret (rt [])
      refine VW.skip <| nE K (tn 3) ?_
      exact aro [.ren [1, 3] [0]] ⟨(wr (x81 + (1 : Int))), rfl, h⟩
     refine VW.exit ?_
     exact arv [.ren [1] [0]] ⟨rfl, h⟩
   rintro s ⟨rfl, h⟩
   unfold F87_j1 at h
   refine sq <| VW.region <| nG K 3 (tn 3) ?_
   obtain⟨y75,hy,h⟩:=aS h
   refine clc false [.t (.int .i64), .t (.int .i64), .t (.int .i64)] [] (some 114) K (ok64 N _ _ _ hy) <| nG K 1 (tn 1) ?_
   refine spC 115 h ?_ ?_<;>intro h
   ·refine nG K 5 (tn 5) ?_
    refine spC 120 h ?_ ?_<;>intro h
    ·refine nG K 5 (tn 5) ?_
     refine spC 125 h ?_ ?_<;>intro h
     ·refine nN K (tn 5) ?_
      cases h; exact VW.ret (rt [])
     refine nN K (tn 5) ?_
     cases h; exact VW.ret (rt [])
    refine nN K (tn 10) ?_
    cases h; exact VW.ret (rt [])
   refine nN K (tn 15) ?_
   cases h; exact VW.ret (rt [])
  refine nR K (tn 2) ?_
  refine cnd h ?_ ?_<;>intro h
  ·refine sq <| VW.region <| nG K 2 (tn 2) ?_
   obtain⟨y91,hy,h⟩:=aS h
   refine clc false [.t (.int .i64)] [] (some 134) K (ok123 N _ hy) <| nG K 1 (tn 1) ?_
   refine spC 135 h ?_ ?_<;>intro h
   ·refine nG K 2 (tn 2) <| VO.on (j := 3) (want := true) (d := 135) (b := true) rfl rfl rfl (by kernel_rfl) rfl ?_
    obtain⟨y92,hy,h⟩:=aS h
    refine clc false [.t (.int .i64)] [] (some 138) K (ok123 N _ hy) <| nG K 2 (tn 2) ?_
    refine spC 140 h ?_ ?_<;>intro h
    ·refine nN K (tn 5) ?_
     cases h; exact VW.ret (rt [])
    refine nN K (tn 5) ?_
    cases h; exact VW.ret (rt [])
   refine nN K (tn 10) ?_
   cases h; exact VW.ret (rt [])
  refine nR K (tn 2) ?_
  refine cnd h ?_ ?_<;>intro h
  ·refine sq <| VW.region <| nG K 2 (tn 2) ?_
   obtain⟨y93,hy,h⟩:=aS h
   refine clc false [.t (.int .i64)] [] (some 149) K (ok123 N _ hy) <| nG K 1 (tn 1) ?_
   refine spC 150 h ?_ ?_<;>intro h
   ·refine nG K 5 (tn 5) ?_
    refine spC 155 h ?_ ?_<;>intro h
    ·refine nN K (tn 5) ?_
     cases h; exact VW.ret (rt [])
    refine nN K (tn 5) ?_
    cases h; exact VW.ret (rt [])
   refine nN K (tn 10) ?_
   cases h; exact VW.ret (rt [])
  refine nR K (tn 2) ?_
  refine cnd h ?_ ?_<;>intro h
  ·refine sq <| VW.region <| nG K 4 (tn 4) ?_
   refine spC 165 h ?_ ?_<;>intro h
   ·refine nG K 2 (tn 2) <| VO.on (j := 3) (want := true) (d := 165) (b := true) rfl rfl rfl (by kernel_rfl) rfl ?_
    obtain⟨y94,hy,h⟩:=aS h
    refine clc false [.t (.int .i64), .t (.int .i64), .t (.int .i64)] [] (some 168) K (ok64 N _ _ _ hy) <| nN K (tn 2) ?_
    cases h; exact VW.ret (rt [])
   refine nN K (tn 5) ?_
   cases h; exact VW.ret (rt [])
  refine VW.join (fun s => ∃ x95, s = ⟨[(1, .lf (.ptr 0 0 0 0)), (170, B x95)], [bx [zi x9, zs x10, zi x11, zi x12, zi x13, zb x14, .v (.sl (.int .i64)) x15] 74]⟩ ∧ F87_j2 N x11 x13 x14 x95 = some r) ?_ ?_
  ·refine nR K (tn 2) ?_
   refine cnd h ?_ ?_<;>intro h
   ·refine VW.skip ?_
    exact arv [.ren [1, 170] [0]] ⟨(x9 == (4 : Int)), rfl, h⟩
   refine nE K (tn 2) ?_
   exact arv [.ren [1, 170] [0]] ⟨(x9 == (7 : Int)), rfl, h⟩
  rintro s ⟨x95, rfl, h⟩
  unfold F87_j2 at h
  refine cnd h ?_ ?_<;>intro h
  ·refine sq <| VW.region <| nG K 4 (tn 4) ?_
   refine spC 176 h ?_ ?_<;>intro h
   ·refine nG K 5 (tn 5) ?_
    refine spC 181 h ?_ ?_<;>intro h
    ·refine nN K (tn 5) ?_
     cases h; exact VW.ret (rt [])
    refine nN K (tn 5) ?_
    cases h; exact VW.ret (rt [])
   refine nN K (tn 10) ?_
   cases h; exact VW.ret (rt [])
  refine VW.skip ?_
  exact arv [.ren [] []] ⟨rfl, h⟩
 rintro s ⟨rfl, h⟩
 unfold F87_j0 at h
 refine nR K (tn 1) ?_
 cases h; exact VW.ret (rt [])
def F125_j0 (N : Nat) (x6 : Bool) : Option (Int) :=
  cond x6 (some (1 : Int)) (some (-1 : Int))
def F125_j1 (N : Nat) (a0 : Int) (x5 : Bool) : Option (Int) :=
  cond x5 (some (2 : Int)) (cond (a0 == (1 : Int)) (F125_j0 N (a0 == (1 : Int))) (cond (a0 == (2 : Int)) (F125_j0 N (a0 == (2 : Int))) (cond (a0 == (5 : Int)) (F125_j0 N (a0 == (5 : Int))) (cond (a0 == (6 : Int)) (F125_j0 N (a0 == (6 : Int))) (F125_j0 N (a0 == (7 : Int)))))))
def F125 (N : Nat) (a0 : Int) : Option (Int) :=
  cond (a0 == (0 : Int)) (some (0 : Int)) (cond (a0 == (3 : Int)) (F125_j1 N a0 (a0 == (3 : Int))) (F125_j1 N a0 (a0 == (4 : Int))))
theorem ok125 N a0 {r} (h : F125 N a0 = some r) : Con prog 125 [I a0] [.lf (.v (.int .i64) r)] := by
 refine ctr [.lf (.v (.int .i64))] K func125 rfl fun w0 E0 ht => ?_
 unfold F125 at h
 show VW _ _ _ _ _ (retQ _ _ _ _) _
 refine nR K (tn 1) <| sq <| nR K (tn 1) <| VW.block <| nR K (tn 2) ?_
 refine cnd h ?_ ?_<;>intro h
 ·refine nR K (tn 1) ?_
  cases h; exact VW.ret (rt [])
 refine VW.join (fun s => ∃ x5, s = ⟨[(3, I a0), (6, B x5)], []⟩ ∧ F125_j1 N a0 x5 = some r) ?_ ?_
 ·refine nR K (tn 2) ?_
  refine cnd h ?_ ?_<;>intro h
  ·refine VW.skip ?_
   exact arv [.ren [3, 6] []] ⟨(a0 == (3 : Int)), rfl, h⟩
  refine nE K (tn 2) ?_
  exact arv [.ren [3, 6] []] ⟨(a0 == (4 : Int)), rfl, h⟩
 rintro s ⟨x5, rfl, h⟩
 unfold F125_j1 at h
 refine cnd h ?_ ?_<;>intro h
 ·refine nR K (tn 1) ?_
  cases h; exact VW.ret (rt [])
 refine VW.join (fun s => ∃ x6, s = ⟨[(9, B x6)], []⟩ ∧ F125_j0 N x6 = some r) ?_ ?_
 ·refine nR K (tn 2) ?_
  refine cnd h ?_ ?_<;>intro h
  ·refine VW.skip ?_
   exact arv [.ren [9] []] ⟨(a0 == (1 : Int)), rfl, h⟩
  refine nR K (tn 2) ?_
  refine cnd h ?_ ?_<;>intro h
  ·refine VW.skip ?_
   exact arv [.ren [9] []] ⟨(a0 == (2 : Int)), rfl, h⟩
  refine nR K (tn 2) ?_
  refine cnd h ?_ ?_<;>intro h
  ·refine VW.skip ?_
   exact arv [.ren [9] []] ⟨(a0 == (5 : Int)), rfl, h⟩
  refine nR K (tn 2) ?_
  refine cnd h ?_ ?_<;>intro h
  ·refine VW.skip ?_
   exact arv [.ren [9] []] ⟨(a0 == (6 : Int)), rfl, h⟩
  refine nE K (tn 2) ?_
  exact arv [.ren [9] []] ⟨(a0 == (7 : Int)), rfl, h⟩
 rintro s ⟨x6, rfl, h⟩
 unfold F125_j0 at h
 refine cnd h ?_ ?_<;>intro h
 ·refine nR K (tn 1) ?_
  cases h; exact VW.ret (rt [])
 refine VW.skip <| nR K (tn 1) ?_
 cases h; exact VW.ret (rt [])
def F88_j0 (N : Nat) (x33 : Int) (x34 : Int) : Option (Int × Int) :=
  some (x33, (IntKind.i64.wrap (x34 + (1 : Int))))
def F88_j1 (N : Nat) (nx58 : Int → Int → Int → Option (Int × Int)) (x48 : Int) (x64 : Int) (x65 : Int) : Option (Int × Int) :=
  nx58 x64 x65 (IntKind.i64.wrap (x48 + (1 : Int)))
def F88_l0_b (N : Nat) (a0 : (List Z73)) (a1 : Int) (a2 : Int) (self : (List Z73) → Int → Int → Option (Int × Int)) (nx58 : Int → Int → Int → Option (Int × Int)) (x46 : Int) (x47 : Int) (x48 : Int) : Option (Int × Int) :=
  gd (InR a1 a0.length) (andO (F125 N ((a0.getD a1.toNat (Ty.dflt Y73)).1)) fun y62 => cond (decide (x48 < y62)) (andO (self a0 x46 (IntKind.i64.wrap (a2 - (1 : Int)))) fun y67 => cond (decide (y67.1 < (0 : Int))) (some ((-1 : Int), (0 : Int))) (cond (decide (y67.2 > x47)) (F88_j1 N nx58 x48 y67.1 y67.2) (F88_j1 N nx58 x48 y67.1 x47))) (F88_j0 N x46 x47))
def F88_l0 (N : Nat) (a0 : (List Z73)) (a1 : Int) (a2 : Int) (self : (List Z73) → Int → Int → Option (Int × Int)) := loopF (F88_l0_b N a0 a1 a2 self) (fun _ _ _ => none)
theorem F88_l0_s N a0 a1 a2 (self : (List Z73) → Int → Int → Option (Int × Int)) {k} (hk : 0 < k) x46 x47 x48 : F88_l0 N a0 a1 a2 self k x46 x47 x48 = F88_l0_b N a0 a1 a2 self (F88_l0 N a0 a1 a2 self (k - 1)) x46 x47 x48 := by cases k;cases hk;rfl
def F88_b (N : Nat) (self : (List Z73) → Int → Int → Option (Int × Int)) (a0 : (List Z73)) (a1 : Int) (a2 : Int) : Option (Int × Int) :=
  cond (decide (a1 ≥ (a0.length : Int))) (some ((-1 : Int), (0 : Int))) (cond (a2 == (0 : Int)) (some ((-1 : Int), (0 : Int))) (F88_l0 N a0 a1 a2 self N (IntKind.i64.wrap (a1 + (1 : Int))) (0 : Int) (0 : Int)))
theorem ok88_b (N : Nat) (self : (List Z73) → Int → Int → Option (Int × Int)) (ih : ∀ (a0 : (List Z73)) (a1 : Int) (a2 : Int) (r : Int × Int), self a0 a1 a2 = some r → Con prog 88 [Vv (.sl Y73) a0, I a1, I a2] [.lf (.v (.int .i64) r.1), .lf (.v (.int .i64) r.2)]) (a0 : (List Z73)) (a1 : Int) (a2 : Int) {r : Int × Int} (h : F88_b N self a0 a1 a2 = some r) : Con prog 88 [Vv (.sl Y73) a0, I a1, I a2] [.lf (.v (.int .i64) r.1), .lf (.v (.int .i64) r.2)] := by
 refine ctr [.lf (.v (.int .i64)), .lf (.v (.int .i64))] K func88 rfl fun w0 E0 ht => ?_
 unfold F88_b at h
 show VW _ _ _ _ _ (retQ _ _ _ _) _
 refine nR K (tn 2) <| sq <| sq <| VW.region <| nG K 5 (tn 5) ?_
 refine spC 17 h ?_ ?_<;>intro h
 ·refine nN K (tn 3) ?_
  refine VW.cond (b := true) (by kernel_rfl) (fun _ => ?_) (fun h' => nomatch h')
  refine nR K (tn 2) ?_
  cases h; exact VW.ret (rt [])
 refine nN K (tn 3) ?_
 refine cnd h ?_ ?_<;>intro h
 ·refine nR K (tn 2) ?_
  cases h; exact VW.ret (rt [])
 refine VW.skip <| nR K (tn 3) <| nR K (tn 1) ?_
 refine VW.join (fun s => ∃ x33 x34, s = ⟨[(8, I x33), (9, I x34)], []⟩ ∧ F88_j0 N x33 x34 = some r) ?_ ?_
 ·refine nR K (tn 1) <| VW.block <| lop (fun k s => ∃ x46 x47 x48, s = ⟨[(0, Vv (.sl Y73) a0), (1, I a1), (2, I a2), (8, I x46), (9, I x47), (10, I x48)], []⟩ ∧ F88_l0 N a0 a1 a2 self k x46 x47 x48 = some r) N [.ren [0, 1, 2, 8, 9, 10] []] ⟨(wr (a1 + (1 : Int))), (0 : Int), (0 : Int), rfl, h⟩ ?_
  rintro k58 s ⟨x46, x47, x48, rfl, h⟩
  cases k58 with
  | zero => cases show none = some r from h
  | succ k58 =>
   replace h : F88_l0_b N a0 a1 a2 self (F88_l0 N a0 a1 a2 self k58) x46 x47 x48 = some r := h
   unfold F88_l0_b at h
   refine sq <| sq <| VW.region ?_
   obtain⟨g61,h⟩:=gS h
   refine nG K 6 (pu 3 (an g61 (tn 2))) ?_
   obtain⟨y62,hy,h⟩:=aS h
   refine clc false [.t (.int .i64)] [] (some 29) K (ok125 N _ hy) <| nN K (tn 1) ?_
   refine cnd h ?_ ?_<;>intro h
   ·refine VW.skip ?_
    refine VW.join (fun s => ∃ x64 x65, s = ⟨[(0, Vv (.sl Y73) a0), (1, I a1), (2, I a2), (8, I x64), (9, I x65), (10, I x48)], []⟩ ∧ F88_j1 N (F88_l0 N a0 a1 a2 self k58) x48 x64 x65 = some r) ?_ ?_
    ·refine VW.block <| sq <| VW.region <| nG K 4 (tn 4) ?_
     obtain⟨y67,hy,h⟩:=aS h
     refine clc false [.t (.sl Y73), .t (.int .i64), .t (.int .i64)] [] (some 38) K (ih _ _ _ _ hy) <| nN K (tn 5) <| sq <| nR K (tn 2) ?_
     refine cnd h ?_ ?_<;>intro h
     ·refine nR K (tn 2) ?_
      cases h; exact VW.ret (rt [])
     refine VW.skip <| nR K (tn 2) <| nR K (tn 3) ?_
     refine cnd h ?_ ?_<;>intro h
     ·refine nE K (tn 2) ?_
      exact arv [.ren [0, 1, 2, 8, 9, 10] []] ⟨y67.1, y67.2, rfl, h⟩
     refine VW.skip ?_
     exact arv [.ren [0, 1, 2, 8, 9, 10] []] ⟨y67.1, x47, rfl, h⟩
    rintro s ⟨x64, x65, rfl, h⟩
    unfold F88_j1 at h
    refine nE K (tn 3) ?_
    exact aro [.ren [0, 1, 2, 8, 9, 10] []] ⟨x64, x65, (wr (x48 + (1 : Int))), rfl, h⟩
   refine VW.exit ?_
   exact arv [.ren [8, 9] []] ⟨x46, x47, rfl, h⟩
 rintro s ⟨x33, x34, rfl, h⟩
 unfold F88_j0 at h
 refine nR K (tn 5) ?_
 cases h; exact VW.ret (rt [])
def F88_r (N : Nat) := loopF (F88_b N) (fun _ _ _ => none)
theorem F88_s N {k} (hk : 0 < k) a0 a1 a2 : F88_r N k a0 a1 a2 = F88_b N (F88_r N (k - 1)) a0 a1 a2 := by cases k;cases hk;rfl
def F88 (N : Nat) : (List Z73) → Int → Int → Option (Int × Int) := F88_r N N
theorem ok88_k (N : Nat) : ∀ (k : Nat) (a0 : (List Z73)) (a1 : Int) (a2 : Int) (r : Int × Int), loopF (F88_b N) (fun _ _ _ => none) k a0 a1 a2 = some r → Con prog 88 [Vv (.sl Y73) a0, I a1, I a2] [.lf (.v (.int .i64) r.1), .lf (.v (.int .i64) r.2)]
 | 0, a0, a1, a2, r, h => nomatch (show (none : Option (Int × Int)) = some r from h)
 | k + 1, a0, a1, a2, r, h => ok88_b N _ (ok88_k N k) a0 a1 a2 h
theorem ok88 N a0 a1 a2 {r} (h : F88 N a0 a1 a2 = some r) : Con prog 88 [Vv (.sl Y73) a0, I a1, I a2] [.lf (.v (.int .i64) r.1), .lf (.v (.int .i64) r.2)] := ok88_k N N a0 a1 a2 r h
def F40_j0 (N : Nat) (a0 : (List Z73)) : Option (Bool) :=
  andO (F88 N a0 (0 : Int) (10 : Int)) fun y17 => some (y17.1 == (a0.length : Int))
def F40_l0_b (N : Nat) (a0 : (List Z73)) (nx28 : Int → Option (Bool)) (x23 : Int) : Option (Bool) :=
  cond (decide (x23 < (a0.length : Int))) (gd (InR x23 a0.length) (andO (F87 N (a0.getD x23.toNat (Ty.dflt Y73))) fun y32 => cond (!y32) (some false) (nx28 (IntKind.i64.wrap (x23 + (1 : Int)))))) (F40_j0 N a0)
def F40_l0 (N : Nat) (a0 : (List Z73)) := loopF (F40_l0_b N a0) (fun _ => none)
theorem F40_l0_s N a0 {k} (hk : 0 < k) x23 : F40_l0 N a0 k x23 = F40_l0_b N a0 (F40_l0 N a0 (k - 1)) x23 := by cases k;cases hk;rfl
def F40 (N : Nat) (a0 : (List Z73)) : Option (Bool) :=
  andO (F64 N (a0.length : Int) (1 : Int) (40 : Int)) fun y2 => cond (!y2) (some false) (F40_l0 N a0 N (0 : Int))
theorem ok40 N a0 {r} (h : F40 N a0 = some r) : Con prog 40 [Vv (.sl Y73) a0] [.lf (.v .bool r)] := by
 refine ctr [.lf (.v .bool)] K func40 rfl fun w0 E0 ht => ?_
 unfold F40 at h
 show VW _ _ _ _ _ (retQ _ _ _ _) _
 refine nR K (tn 1) <| sq <| sq <| VW.region <| nG K 2 (tn 2) ?_
 obtain⟨y2,hy,h⟩:=aS h
 refine clc false [.t (.int .i64), .t (.int .i64), .t (.int .i64)] [] (some 8) K (ok64 N _ _ _ hy) <| nN K (tn 1) ?_
 refine cnd h ?_ ?_<;>intro h
 ·refine nR K (tn 1) ?_
  cases h; exact VW.ret (rt [])
 refine VW.skip ?_
 refine VW.join (fun s => s = ⟨[(0, Vv (.sl Y73) a0)], []⟩ ∧ F40_j0 N a0 = some r) ?_ ?_
 ·refine nR K (tn 1) <| VW.block <| lop (fun k s => ∃ x23, s = ⟨[(0, Vv (.sl Y73) a0), (3, I x23)], []⟩ ∧ F40_l0 N a0 k x23 = some r) N [.ren [0, 3] []] ⟨(0 : Int), rfl, h⟩ ?_
  rintro k28 s ⟨x23, rfl, h⟩
  cases k28 with
  | zero => cases show none = some r from h
  | succ k28 =>
   replace h : F40_l0_b N a0 (F40_l0 N a0 k28) x23 = some r := h
   unfold F40_l0_b at h
   refine sq <| nR K (tn 4) ?_
   refine cnd h ?_ ?_<;>intro h
   ·refine VW.skip <| sq <| VW.block <| sq <| VW.region ?_
    obtain⟨g31,h⟩:=gS h
    refine nG K 4 (pu 2 (an g31 (tn 1))) ?_
    obtain⟨y32,hy,h⟩:=aS h
    refine clc false [.t Y73] [] (some 20) K (ok87 N _ hy) <| nN K (tn 1) ?_
    refine cnd h ?_ ?_<;>intro h
    ·refine nR K (tn 1) ?_
     cases h; exact VW.ret (rt [])
    refine VW.skip <| nE K (tn 3) ?_
    exact aro [.ren [0, 3] []] ⟨(wr (x23 + (1 : Int))), rfl, h⟩
   refine VW.exit ?_
   exact arv [.ren [0] []] ⟨rfl, h⟩
 rintro s ⟨rfl, h⟩
 unfold F40_j0 at h
 refine sq <| VW.region <| nG K 1 (tn 1) ?_
 obtain⟨y17,hy,h⟩:=aS h
 refine clc false [.t (.sl Y73), .t (.int .i64), .t (.int .i64)] [] (some 24) K (ok88 N _ _ _ hy) <| nN K (tn 5) <| nR K (tn 5) ?_
 cases h; exact VW.ret (rt [])
def F89_j0 (N : Nat) (x30 : (List Int)) : Option ((List Int)) :=
  some x30
def F89_l0_b (N : Nat) (a0 : (List Z73)) (a1 : Int) (nx52 : (List Int) → Int → Int → Option ((List Int))) (x41 : (List Int)) (x42 : Int) (x43 : Int) : Option ((List Int)) :=
  gd (InR a1 a0.length) (andO (F125 N ((a0.getD a1.toNat (Ty.dflt Y73)).1)) fun y56 => cond (decide (x43 < y56)) (gd (x41.length + ([x42]).length ≤ lim (.int .i64)) (andO (F88 N a0 x42 (10 : Int)) fun y60 => nx52 (x41 ++ ([x42])) y60.1 (IntKind.i64.wrap (x43 + (1 : Int))))) (F89_j0 N x41))
def F89_l0 (N : Nat) (a0 : (List Z73)) (a1 : Int) := loopF (F89_l0_b N a0 a1) (fun _ _ _ => none)
theorem F89_l0_s N a0 a1 {k} (hk : 0 < k) x41 x42 x43 : F89_l0 N a0 a1 k x41 x42 x43 = F89_l0_b N a0 a1 (F89_l0 N a0 a1 (k - 1)) x41 x42 x43 := by cases k;cases hk;rfl
def F89 (N : Nat) (a0 : (List Z73)) (a1 : Int) : Option ((List Int)) :=
  F89_l0 N a0 a1 N ([]) (IntKind.i64.wrap (a1 + (1 : Int))) (0 : Int)
theorem ok89 N a0 a1 {r} (h : F89 N a0 a1 = some r) : Con prog 89 [Vv (.sl Y73) a0, I a1] [.lf (.own (.int .i64) r .dp)] := by
 refine ctr [.lf (.own (.int .i64) .dp)] K func89 rfl fun w0 E0 ht => ?_
 unfold F89 at h
 show VW _ _ _ _ _ (retQ _ _ _ _) _
 refine nR K (tn 1) <| nR K (tn 2) <| nR K (tn 3) ?_
 refine VW.join (fun s => ∃ x30, s = ⟨[(5, hh 0)], [ar 0 (.int .i64) x30 .dp]⟩ ∧ F89_j0 N x30 = some r) ?_ ?_
 ·refine nR K (tn 1) <| VW.block <| lop (fun k s => ∃ x41 x42 x43, s = ⟨[(0, Vv (.sl Y73) a0), (1, I a1), (5, hh 0), (6, I x42), (7, I x43)], [ar 0 (.int .i64) x41 .dp]⟩ ∧ F89_l0 N a0 a1 k x41 x42 x43 = some r) N [.nilS 5 (.int .i64) .dp, .ren [0, 1, 5, 6, 7] [0]] ⟨[], (wr (a1 + (1 : Int))), (0 : Int), rfl, h⟩ ?_
  rintro k52 s ⟨x41, x42, x43, rfl, h⟩
  cases k52 with
  | zero => cases show none = some r from h
  | succ k52 =>
   replace h : F89_l0_b N a0 a1 (F89_l0 N a0 a1 k52) x41 x42 x43 = some r := h
   unfold F89_l0_b at h
   refine sq <| sq <| VW.region ?_
   obtain⟨g55,h⟩:=gS h
   refine nG K 6 (pu 3 (an g55 (tn 2))) ?_
   obtain⟨y56,hy,h⟩:=aS h
   refine clc false [.t (.int .i64)] [] (some 17) K (ok125 N _ hy) <| nN K (tn 1) ?_
   refine cnd h ?_ ?_<;>intro h
   ·refine VW.skip <| sq <| VW.block ?_
    obtain⟨g59,h⟩:=gS h
    refine nR K (pu 3 (an g59 (tn 1))) <| VW.region <| nG K 2 (tn 2) ?_
    obtain⟨y60,hy,h⟩:=aS h
    refine clc false [.t (.sl Y73), .t (.int .i64), .t (.int .i64)] [] (some 28) K (ok88 N _ _ _ hy) <| nN K (tn 4) <| nE K (tn 3) ?_
    exact aro [.ren [0, 1, 5, 6, 7] [0]] ⟨(x41 ++ ([x42])), y60.1, (wr (x43 + (1 : Int))), rfl, h⟩
   refine VW.exit ?_
   exact arv [.ren [5] [0]] ⟨x41, rfl, h⟩
 rintro s ⟨x30, rfl, h⟩
 unfold F89_j0 at h
 refine nR K (tn 2) ?_
 cases h; exact VW.ret (rt [some 0])
def F90_j0 (N : Nat) : Option (Int) :=
  some (-1 : Int)
def F90_l0_b (N : Nat) (a0 : (List Z77)) (a1 : ByteArray) (nx15 : Int → Option (Int)) (x12 : Int) : Option (Int) :=
  cond (decide (x12 < (a0.length : Int))) (gd (InR x12 a0.length) (cond (((a0.getD x12.toNat (Ty.dflt Y77)).1).toList == a1.toList) (some x12) (nx15 (IntKind.i64.wrap (x12 + (1 : Int)))))) (F90_j0 N)
def F90_l0 (N : Nat) (a0 : (List Z77)) (a1 : ByteArray) := loopF (F90_l0_b N a0 a1) (fun _ => none)
theorem F90_l0_s N a0 a1 {k} (hk : 0 < k) x12 : F90_l0 N a0 a1 k x12 = F90_l0_b N a0 a1 (F90_l0 N a0 a1 (k - 1)) x12 := by cases k;cases hk;rfl
def F90 (N : Nat) (a0 : (List Z77)) (a1 : ByteArray) : Option (Int) :=
  F90_l0 N a0 a1 N (0 : Int)
theorem ok90 N a0 a1 {r} (h : F90 N a0 a1 = some r) : Con prog 90 [Vv (.sl Y77) a0, S a1] [.lf (.v (.int .i64) r)] := by
 refine ctr [.lf (.v (.int .i64))] K func90 rfl fun w0 E0 ht => ?_
 unfold F90 at h
 show VW _ _ _ _ _ (retQ _ _ _ _) _
 refine nR K (tn 1) ?_
 refine VW.join (fun s => s = ⟨[], []⟩ ∧ F90_j0 N = some r) ?_ ?_
 ·refine nR K (tn 1) <| VW.block <| lop (fun k s => ∃ x12, s = ⟨[(0, Vv (.sl Y77) a0), (1, S a1), (5, I x12)], []⟩ ∧ F90_l0 N a0 a1 k x12 = some r) N [.ren [0, 1, 5] []] ⟨(0 : Int), rfl, h⟩ ?_
  rintro k15 s ⟨x12, rfl, h⟩
  cases k15 with
  | zero => cases show none = some r from h
  | succ k15 =>
   replace h : F90_l0_b N a0 a1 (F90_l0 N a0 a1 k15) x12 = some r := h
   unfold F90_l0_b at h
   refine sq <| nR K (tn 4) ?_
   refine cnd h ?_ ?_<;>intro h
   ·refine VW.skip <| sq <| VW.block ?_
    obtain⟨g17,h⟩:=gS h
    refine nR K (pu 2 (an g17 (tn 4))) ?_
    refine cnd h ?_ ?_<;>intro h
    ·refine nR K (tn 2) ?_
     cases h; exact VW.ret (rt [])
    refine VW.skip <| nE K (tn 3) ?_
    exact aro [.ren [0, 1, 5] []] ⟨(wr (x12 + (1 : Int))), rfl, h⟩
   refine VW.exit ?_
   exact arv [.ren [] []] ⟨rfl, h⟩
 rintro s ⟨rfl, h⟩
 unfold F90_j0 at h
 refine nR K (tn 1) ?_
 cases h; exact VW.ret (rt [])
def F41_j0 (N : Nat) (x51 : (List Int)) : Option (Int) :=
  gd (InR (0 : Int) x51.length) (gd ((0 : Int).toNat < x51.length) (some (x51.getD ((0 : Int).toNat) (Ty.dflt (.int .i64)))))
def F41_j1 (N : Nat) (x50 : (List Int)) : Option (Int) :=
  some (x50.length : Int)
def F41_l0_b (N : Nat) (x50 : (List Int)) (x51 : (List Int)) (nx169 : Int → Option (Int)) (x162 : Int) : Option (Int) :=
  cond (decide (x162 < (x50.length : Int))) (gd (InR x162 x50.length) (gd (InR (0 : Int) x51.length) (gd ((0 : Int).toNat < x51.length) (cond (decide ((x50.getD x162.toNat (Ty.dflt (.int .i64))) ≥ (x51.getD ((0 : Int).toNat) (Ty.dflt (.int .i64))))) (some (-1 : Int)) (nx169 (IntKind.i64.wrap (x162 + (1 : Int)))))))) (F41_j1 N x50)
def F41_l0 (N : Nat) (x50 : (List Int)) (x51 : (List Int)) := loopF (F41_l0_b N x50 x51) (fun _ => none)
theorem F41_l0_s N x50 x51 {k} (hk : 0 < k) x162 : F41_l0 N x50 x51 k x162 = F41_l0_b N x50 x51 (F41_l0 N x50 x51 (k - 1)) x162 := by cases k;cases hk;rfl
def F41_j2 (N : Nat) (x44 : Int) (x46 : Int) (x48 : Int) (x50 : (List Int)) (x51 : (List Int)) (x132 : Bool) : Option (Int) :=
  cond x132 (gd (InR (0 : Int) x51.length) (gd ((0 : Int).toNat < x51.length) (cond (decide (x46 ≥ (x51.getD ((0 : Int).toNat) (Ty.dflt (.int .i64))))) (some (-1 : Int)) (F41_j0 N x51)))) (cond (x44 == (2 : Int)) (F41_l0 N x50 x51 N (0 : Int)) (cond (x44 == (3 : Int)) (gd (InR (0 : Int) x51.length) (gd ((0 : Int).toNat < x51.length) (cond (decide (x46 ≥ (x51.getD ((0 : Int).toNat) (Ty.dflt (.int .i64))))) (some (-1 : Int)) (gd (InR (1 : Int) x51.length) (gd ((1 : Int).toNat < x51.length) (cond (decide (x48 ≥ (x51.getD ((1 : Int).toNat) (Ty.dflt (.int .i64))))) (some (-1 : Int)) (gd (InR (0 : Int) x51.length) (gd ((0 : Int).toNat < x51.length) (gd (InR (1 : Int) x51.length) (gd ((1 : Int).toNat < x51.length) (cond (decide ((IntKind.i64.wrap ((x51.getD ((0 : Int).toNat) (Ty.dflt (.int .i64))) + (x51.getD ((1 : Int).toNat) (Ty.dflt (.int .i64))))) > (64 : Int))) (some (-1 : Int)) (gd (InR (0 : Int) x51.length) (gd ((0 : Int).toNat < x51.length) (gd (InR (1 : Int) x51.length) (gd ((1 : Int).toNat < x51.length) (some (IntKind.i64.wrap ((x51.getD ((0 : Int).toNat) (Ty.dflt (.int .i64))) + (x51.getD ((1 : Int).toNat) (Ty.dflt (.int .i64))))))))))))))))))))) (cond (x44 == (4 : Int)) (gd (InR (0 : Int) x51.length) (gd ((0 : Int).toNat < x51.length) (gd (InR (1 : Int) x51.length) (gd ((1 : Int).toNat < x51.length) (cond ((x51.getD ((0 : Int).toNat) (Ty.dflt (.int .i64))) != (x51.getD ((1 : Int).toNat) (Ty.dflt (.int .i64)))) (some (-1 : Int)) (F41_j0 N x51)))))) (F41_j0 N x51))))
def F41_j3 (N : Nat) (a0 : (List Z77)) (x44 : Int) (x45 : ByteArray) (x46 : Int) (x47 : Int) (x48 : Int) (x49 : Bool) (x50 : (List Int)) (x51 : (List Int)) : Option (Int) :=
  cond (x44 == (0 : Int)) (andO (F90 N a0 x45) fun y130 => cond (decide (y130 < (0 : Int))) (some (-1 : Int)) (gd (InR y130 a0.length) (some ((a0.getD y130.toNat (Ty.dflt Y77)).2)))) (cond (x44 == (1 : Int)) (F41_j2 N x44 x46 x48 x50 x51 (x44 == (1 : Int))) (F41_j2 N x44 x46 x48 x50 x51 (x44 == (5 : Int))))
def F41_l1_b (N : Nat) (a0 : (List Z77)) (a1 : (List Z73)) (self : (List Z77) → (List Z73) → Int → Option (Int)) (y2 : (List Int)) (nx238 : Int → ByteArray → Int → Int → Int → Bool → (List Int) → (List Int) → Int → Option (Int)) (x221 : Int) (x222 : ByteArray) (x223 : Int) (x224 : Int) (x225 : Int) (x226 : Bool) (x227 : (List Int)) (x228 : (List Int)) (x229 : Int) : Option (Int) :=
  cond (decide (x229 < (y2.length : Int))) (gd (InR x229 y2.length) (gd (x229.toNat < y2.length) (andO (self a0 a1 (y2.getD x229.toNat (Ty.dflt (.int .i64)))) fun y245 => cond (decide (y245 < (0 : Int))) (some (-1 : Int)) (gd (x228.length + ([y245]).length ≤ lim (.int .i64)) (nx238 x221 x222 x223 x224 x225 x226 x227 (x228 ++ ([y245])) (IntKind.i64.wrap (x229 + (1 : Int)))))))) (F41_j3 N a0 x221 x222 x223 x224 x225 x226 x227 x228)
def F41_l1 (N : Nat) (a0 : (List Z77)) (a1 : (List Z73)) (self : (List Z77) → (List Z73) → Int → Option (Int)) (y2 : (List Int)) := loopF (F41_l1_b N a0 a1 self y2) (fun _ _ _ _ _ _ _ _ _ => none)
theorem F41_l1_s N a0 a1 (self : (List Z77) → (List Z73) → Int → Option (Int)) y2 {k} (hk : 0 < k) x221 x222 x223 x224 x225 x226 x227 x228 x229 : F41_l1 N a0 a1 self y2 k x221 x222 x223 x224 x225 x226 x227 x228 x229 = F41_l1_b N a0 a1 self y2 (F41_l1 N a0 a1 self y2 (k - 1)) x221 x222 x223 x224 x225 x226 x227 x228 x229 := by cases k;cases hk;rfl
def F41_b (N : Nat) (self : (List Z77) → (List Z73) → Int → Option (Int)) (a0 : (List Z77)) (a1 : (List Z73)) (a2 : Int) : Option (Int) :=
  gd (InR a2 a1.length) (andO (F89 N a1 a2) fun y2 => F41_l1 N a0 a1 self y2 N ((a1.getD a2.toNat (Ty.dflt Y73)).1) ((a1.getD a2.toNat (Ty.dflt Y73)).2.1) ((a1.getD a2.toNat (Ty.dflt Y73)).2.2.1) ((a1.getD a2.toNat (Ty.dflt Y73)).2.2.2.1) ((a1.getD a2.toNat (Ty.dflt Y73)).2.2.2.2.1) ((a1.getD a2.toNat (Ty.dflt Y73)).2.2.2.2.2.1) ((a1.getD a2.toNat (Ty.dflt Y73)).2.2.2.2.2.2) ([]) (0 : Int))
theorem ok41_b (N : Nat) (self : (List Z77) → (List Z73) → Int → Option (Int)) (ih : ∀ (a0 : (List Z77)) (a1 : (List Z73)) (a2 : Int) (r : Int), self a0 a1 a2 = some r → Con prog 41 [Vv (.sl Y77) a0, Vv (.sl Y73) a1, I a2] [.lf (.v (.int .i64) r)]) (a0 : (List Z77)) (a1 : (List Z73)) (a2 : Int) {r : Int} (h : F41_b N self a0 a1 a2 = some r) : Con prog 41 [Vv (.sl Y77) a0, Vv (.sl Y73) a1, I a2] [.lf (.v (.int .i64) r)] := by
 refine ctr [.lf (.v (.int .i64))] K func41 rfl fun w0 E0 ht => ?_
 unfold F41_b at h
 show VW _ _ _ _ _ (retQ _ _ _ _) _
 refine nR K (tn 1) ?_
 obtain⟨g1,h⟩:=gS h
 refine nR K (pu 2 (an g1 (tn 3))) <| nR K (tn 2) <| sq <| VW.region <| nG K 2 (tn 2) ?_
 obtain⟨y2,hy,h⟩:=aS h
 refine clc false [.t (.sl Y73), .t (.int .i64)] [] (some 21) K (ok89 N _ _ hy) <| nN K (tn 1) ?_
 refine VW.join (fun s => ∃ x44 x45 x46 x47 x48 x49 x50 x51, s = ⟨[(0, Vv (.sl Y77) a0), (7, .lf (.ptr 0 0 0 0)), (8, hh 1)], [bx [zi x44, zs x45, zi x46, zi x47, zi x48, zb x49, .v (.sl (.int .i64)) x50] 74, ar 0 (.int .i64) x51 .dp]⟩ ∧ F41_j3 N a0 x44 x45 x46 x47 x48 x49 x50 x51 = some r) ?_ ?_
 ·refine nR K (tn 1) <| VW.block <| lop (fun k s => ∃ x221 x222 x223 x224 x225 x226 x227 x228 x229, s = ⟨[(0, Vv (.sl Y77) a0), (1, Vv (.sl Y73) a1), (7, .lf (.ptr 0 0 0 0)), (8, hh 1), (9, hh 2), (10, I x229)], [bx [zi x221, zs x222, zi x223, zi x224, zi x225, zb x226, .v (.sl (.int .i64)) x227] 74, ar 0 (.int .i64) x228 .dp, ar 0 (.int .i64) y2 .dp]⟩ ∧ F41_l1 N a0 a1 self y2 k x221 x222 x223 x224 x225 x226 x227 x228 x229 = some r) N [.nilS 8 (.int .i64) .dp, .ren [0, 1, 7, 8, 9, 10] [0, 2, 1]] ⟨(a1.getD a2.toNat D73).1, (a1.getD a2.toNat D73).2.1, (a1.getD a2.toNat D73).2.2.1, (a1.getD a2.toNat D73).2.2.2.1, (a1.getD a2.toNat D73).2.2.2.2.1, (a1.getD a2.toNat D73).2.2.2.2.2.1, (a1.getD a2.toNat D73).2.2.2.2.2.2, [], (0 : Int), rfl, h⟩ ?_
  rintro k238 s ⟨x221, x222, x223, x224, x225, x226, x227, x228, x229, rfl, h⟩
  cases k238 with
  | zero => cases show none = some r from h
  | succ k238 =>
   replace h : F41_l1_b N a0 a1 self y2 (F41_l1 N a0 a1 self y2 k238) x221 x222 x223 x224 x225 x226 x227 x228 x229 = some r := h
   unfold F41_l1_b at h
   refine sq <| nR K (tn 4) ?_
   refine cnd h ?_ ?_<;>intro h
   ·refine VW.skip <| sq <| VW.block <| sq <| VW.region ?_
    obtain⟨g243,h⟩:=gS h
    obtain⟨g244,h⟩:=gS h
    refine nG K 6 (pu 4 (an g243 (an g244 (tn 0)))) ?_
    obtain⟨y245,hy,h⟩:=aS h
    refine clc false [.t (.sl Y77), .t (.sl Y73), .t (.int .i64)] [] (some 34) K (ih _ _ _ _ hy) <| nN K (tn 1) <| sq <| nR K (tn 2) ?_
    refine cnd h ?_ ?_<;>intro h
    ·refine nR K (tn 1) ?_
     cases h; exact VW.ret (rt [])
    refine VW.skip ?_
    obtain⟨g246,h⟩:=gS h
    refine nE K (pu 3 (an g246 (tn 1))) <| nE K (tn 3) ?_
    exact aro [.ren [0, 1, 7, 8, 9, 10] [0, 1, 2]] ⟨x221, x222, x223, x224, x225, x226, x227, (x228 ++ ([y245])), (wr (x229 + (1 : Int))), rfl, h⟩
   refine VW.exit ?_
   exact arv [.ren [0, 7, 8] [0, 1]] ⟨x221, x222, x223, x224, x225, x226, x227, x228, rfl, h⟩
 rintro s ⟨x44, x45, x46, x47, x48, x49, x50, x51, rfl, h⟩
 unfold F41_j3 at h
 refine VW.join (fun s => s = ⟨[(8, hh 0)], [ar 0 (.int .i64) x51 .dp]⟩ ∧ F41_j0 N x51 = some r) ?_ ?_
 ·refine nR K (tn 2) <| VW.block <| nR K (tn 2) ?_
  refine cnd h ?_ ?_<;>intro h
  ·refine sq <| VW.region <| nG K 3 (tn 3) ?_
   obtain⟨y130,hy,h⟩:=aS h
   refine clc false [.t (.sl Y77), .t .str] [] (some 48) K (ok90 N _ _ hy) <| nN K (tn 1) <| sq <| nR K (tn 2) ?_
   refine cnd h ?_ ?_<;>intro h
   ·refine nR K (tn 1) ?_
    cases h; exact VW.ret (rt [])
   refine VW.skip ?_
   obtain⟨g131,h⟩:=gS h
   refine nR K (pu 2 (an g131 (tn 3))) ?_
   cases h; exact VW.ret (rt [])
  refine VW.join (fun s => ∃ x132, s = ⟨[(7, .lf (.ptr 0 0 0 0)), (8, hh 1), (42, I x44), (56, B x132)], [bx [zi x44, zs x45, zi x46, zi x47, zi x48, zb x49, .v (.sl (.int .i64)) x50] 74, ar 0 (.int .i64) x51 .dp]⟩ ∧ F41_j2 N x44 x46 x48 x50 x51 x132 = some r) ?_ ?_
  ·refine nR K (tn 2) ?_
   refine cnd h ?_ ?_<;>intro h
   ·refine VW.skip ?_
    exact arv [.ren [7, 8, 42, 56] [0, 1]] ⟨(x44 == (1 : Int)), rfl, h⟩
   refine nE K (tn 2) ?_
   exact arv [.ren [7, 8, 42, 56] [0, 1]] ⟨(x44 == (5 : Int)), rfl, h⟩
  rintro s ⟨x132, rfl, h⟩
  unfold F41_j2 at h
  refine cnd h ?_ ?_<;>intro h
  ·refine sq ?_
   obtain⟨g133,h⟩:=gS h
   obtain⟨g134,h⟩:=gS h
   refine dr K [] [] [] [8, 64] [1] (pu 3 (an g133 (an g134 (tn 1)))) trivial ?_
   refine cnd h ?_ ?_<;>intro h
   ·refine nR K (tn 1) ?_
    cases h; exact VW.ret (rt [])
   refine VW.skip ?_
   exact arv [.ren [8] [0]] ⟨rfl, h⟩
  refine nR K (tn 2) ?_
  refine cnd h ?_ ?_<;>intro h
  ·refine VW.join (fun s => s = ⟨[(7, .lf (.ptr 0 0 0 0))], [bx [zi x44, zs x45, zi x46, zi x47, zi x48, zb x49, .v (.sl (.int .i64)) x50] 74]⟩ ∧ F41_j1 N x50 = some r) ?_ ?_
   ·refine nR K (tn 1) <| VW.block <| lop (fun k s => ∃ x162, s = ⟨[(7, .lf (.ptr 0 0 0 0)), (8, hh 1), (13, I x162)], [bx [zi x44, zs x45, zi x46, zi x47, zi x48, zb x49, .v (.sl (.int .i64)) x50] 74, ar 0 (.int .i64) x51 .dp]⟩ ∧ F41_l0 N x50 x51 k x162 = some r) N [.ren [7, 8, 13] [0, 1]] ⟨(0 : Int), rfl, h⟩ ?_
    rintro k169 s ⟨x162, rfl, h⟩
    cases k169 with
    | zero => cases show none = some r from h
    | succ k169 =>
     replace h : F41_l0_b N x50 x51 (F41_l0 N x50 x51 k169) x162 = some r := h
     unfold F41_l0_b at h
     refine sq <| nR K (tn 5) ?_
     refine cnd h ?_ ?_<;>intro h
     ·refine VW.skip <| sq <| VW.block <| sq ?_
      obtain⟨g173,h⟩:=gS h
      obtain⟨g174,h⟩:=gS h
      obtain⟨g175,h⟩:=gS h
      refine dr K [] [] [] [7, 8, 13, 82] [0, 1] (pu 3 (an g173 (pu 2 (an g174 (an g175 (tn 1)))))) trivial ?_
      refine cnd h ?_ ?_<;>intro h
      ·refine nR K (tn 1) ?_
       cases h; exact VW.ret (rt [])
      refine VW.skip <| nE K (tn 3) ?_
      exact aro [.ren [7, 8, 13] [0, 1]] ⟨(wr (x162 + (1 : Int))), rfl, h⟩
     refine VW.exit ?_
     exact arv [.ren [7] [0]] ⟨rfl, h⟩
   rintro s ⟨rfl, h⟩
   unfold F41_j1 at h
   refine nR K (tn 4) ?_
   cases h; exact VW.ret (rt [])
  refine nR K (tn 2) ?_
  refine cnd h ?_ ?_<;>intro h
  ·refine sq <| sq ?_
   obtain⟨g186,h⟩:=gS h
   obtain⟨g187,h⟩:=gS h
   rcases Bool.eq_false_or_eq_true (decide (x46 ≥ (x51.getD ((0 : Int).toNat) (Ty.dflt (.int .i64))))) with hb188 | hb188
   ·replace h := cond_t h hb188
    refine dr K [(6, .lit true)] [(6, 0)] [] [8, 111] [1] (pu 3 (an g186 (an g187 (tn 19)))) ⟨qB 94 hb188 K trivial, trivial⟩ ?_
    refine VW.cond (b := true) (by kernel_rfl) (fun _ => ?_) (fun h' => nomatch h')
    refine nR K (tn 1) ?_
    cases h; exact VW.ret (rt [])
   replace h := cond_f h hb188
   obtain⟨g189,h⟩:=gS h
   obtain⟨g190,h⟩:=gS h
   rcases Bool.eq_false_or_eq_true (decide (x48 ≥ (x51.getD ((1 : Int).toNat) (Ty.dflt (.int .i64))))) with hb191 | hb191
   ·replace h := cond_t h hb191
    refine dr K [(6, .lit false), (14, .lit true)] [(6, 0), (14, 0)] [] [8, 111] [1] (pu 3 (an g186 (an g187 (pu 5 (an g189 (an g190 (tn 12))))))) ⟨qB 94 hb188 K trivial, qB 102 hb191 K trivial, trivial⟩ ?_
    refine VW.cond (b := true) (by kernel_rfl) (fun _ => ?_) (fun h' => nomatch h')
    refine nR K (tn 1) ?_
    cases h; exact VW.ret (rt [])
   replace h := cond_f h hb191
   obtain⟨g192,h⟩:=gS h
   obtain⟨g193,h⟩:=gS h
   obtain⟨g194,h⟩:=gS h
   obtain⟨g195,h⟩:=gS h
   refine dr K [(6, .lit false), (14, .lit false)] [(6, 0), (14, 0)] [] [8, 111] [1] (pu 3 (an g186 (an g187 (pu 5 (an g189 (an g190 (pu 4 (an g192 (an g193 (pu 1 (an g194 (an g195 (tn 3))))))))))))) ⟨qB 94 hb188 K trivial, qB 102 hb191 K trivial, trivial⟩ ?_
   refine cnd h ?_ ?_<;>intro h
   ·refine nR K (tn 1) ?_
    cases h; exact VW.ret (rt [])
   refine VW.skip <| sq ?_
   obtain⟨g196,h⟩:=gS h
   obtain⟨g197,h⟩:=gS h
   obtain⟨g198,h⟩:=gS h
   obtain⟨g199,h⟩:=gS h
   refine dr K [] [] [] [6] [] (pu 1 (an g196 (an g197 (pu 1 (an g198 (an g199 (tn 2))))))) trivial ?_
   cases h; exact VW.ret (rt [])
  refine nR K (tn 2) ?_
  refine cnd h ?_ ?_<;>intro h
  ·refine sq ?_
   obtain⟨g200,h⟩:=gS h
   obtain⟨g201,h⟩:=gS h
   obtain⟨g202,h⟩:=gS h
   obtain⟨g203,h⟩:=gS h
   refine dr K [] [] [] [8, 127] [1] (pu 1 (an g200 (an g201 (pu 1 (an g202 (an g203 (tn 1))))))) trivial ?_
   refine cnd h ?_ ?_<;>intro h
   ·refine nR K (tn 1) ?_
    cases h; exact VW.ret (rt [])
   refine VW.skip ?_
   exact arv [.ren [8] [0]] ⟨rfl, h⟩
  refine VW.skip ?_
  exact arv [.ren [8] [1]] ⟨rfl, h⟩
 rintro s ⟨rfl, h⟩
 unfold F41_j0 at h
 obtain⟨g127,h⟩:=gS h
 obtain⟨g128,h⟩:=gS h
 refine nR K (pu 1 (an g127 (an g128 (tn 1)))) ?_
 cases h; exact VW.ret (rt [])
def F41_r (N : Nat) := loopF (F41_b N) (fun _ _ _ => none)
theorem F41_s N {k} (hk : 0 < k) a0 a1 a2 : F41_r N k a0 a1 a2 = F41_b N (F41_r N (k - 1)) a0 a1 a2 := by cases k;cases hk;rfl
def F41 (N : Nat) : (List Z77) → (List Z73) → Int → Option (Int) := F41_r N N
theorem ok41_k (N : Nat) : ∀ (k : Nat) (a0 : (List Z77)) (a1 : (List Z73)) (a2 : Int) (r : Int), loopF (F41_b N) (fun _ _ _ => none) k a0 a1 a2 = some r → Con prog 41 [Vv (.sl Y77) a0, Vv (.sl Y73) a1, I a2] [.lf (.v (.int .i64) r)]
 | 0, a0, a1, a2, r, h => nomatch (show (none : Option (Int)) = some r from h)
 | k + 1, a0, a1, a2, r, h => ok41_b N _ (ok41_k N k) a0 a1 a2 h
theorem ok41 N a0 a1 a2 {r} (h : F41 N a0 a1 a2 = some r) : Con prog 41 [Vv (.sl Y77) a0, Vv (.sl Y73) a1, I a2] [.lf (.v (.int .i64) r)] := ok41_k N N a0 a1 a2 r h
def F8 (N : Nat) (a0 : (List Z77)) (a1 : (List Z73)) : Option (Int) :=
  andO (F18 N a0) fun y3 => cond (!y3) (some (-1 : Int)) (andO (F40 N a1) fun y4 => cond (!y4) (some (-1 : Int)) (andO (F41 N a0 a1 (0 : Int)) fun y5 => some y5))
theorem ok8 N a0 a1 {r} (h : F8 N a0 a1 = some r) : Con prog 8 [Vv (.sl Y77) a0, Vv (.sl Y73) a1] [.lf (.v (.int .i64) r)] := by
 refine ctr [.lf (.v (.int .i64))] K func8 rfl fun w0 E0 ht => ?_
 unfold F8 at h
 show VW _ _ _ _ _ (retQ _ _ _ _) _
 refine nR K (tn 1) <| sq <| sq <| VW.region <| nG K 1 (tn 1) ?_
 obtain⟨y3,hy,h⟩:=aS h
 refine clc false [.t (.sl Y77)] [] (some 6) K (ok18 N _ hy) <| nG K 2 (tn 2) ?_
 refine spC 8 h ?_ ?_<;>intro h
 ·refine nN K (tn 4) ?_
  refine VW.cond (b := true) (by kernel_rfl) (fun _ => ?_) (fun h' => nomatch h')
  refine nR K (tn 1) ?_
  cases h; exact VW.ret (rt [])
 refine nG K 1 (tn 1) <| VO.on (j := 3) (want := false) (d := 8) (b := false) rfl rfl rfl (by kernel_rfl) rfl ?_
 obtain⟨y4,hy,h⟩:=aS h
 refine clc false [.t (.sl Y73)] [] (some 10) K (ok40 N _ hy) <| nN K (tn 2) ?_
 refine cnd h ?_ ?_<;>intro h
 ·refine nR K (tn 1) ?_
  cases h; exact VW.ret (rt [])
 refine VW.skip <| sq <| VW.region <| nG K 2 (tn 2) ?_
 obtain⟨y5,hy,h⟩:=aS h
 refine clc false [.t (.sl Y77), .t (.sl Y73), .t (.int .i64)] [] (some 15) K (ok41 N _ _ _ hy) <| nN K (tn 1) ?_
 cases h; exact VW.ret (rt [])
def F9 (N : Nat) (a0 : (List Z77)) (a1 : (List Z73)) : Option (Bool) :=
  andO (F7 N a0 a1) fun y1 => some (decide (y1 ≥ (0 : Int)))
theorem ok9 N a0 a1 {r} (h : F9 N a0 a1 = some r) : Con prog 9 [Vv (.sl Y77) a0, Vv (.sl Y73) a1] [.lf (.v .bool r)] := by
 refine ctr [.lf (.v .bool)] K func9 rfl fun w0 E0 ht => ?_
 unfold F9 at h
 show VW _ _ _ _ _ (retQ _ _ _ _) _
 refine nR K (tn 1) <| sq <| VW.region <| nG K 2 (tn 2) ?_
 obtain⟨y1,hy,h⟩:=aS h
 refine clc false [.t (.sl Y77), .t (.sl Y73)] [] (some 7) K (ok7 N _ _ hy) <| nN K (tn 2) ?_
 cases h; exact VW.ret (rt [])
def F93 (N : Nat) (a0 : (List Int)) : Option ((List Int)) :=
  gd (a0.length ≤ lim (.int .i64)) (some a0)
theorem ok93 N a0 {r} (h : F93 N a0 = some r) : Con prog 93 [Vv (.sl (.int .i64)) a0] [.lf (.own (.int .i64) r .dp)] := by
 refine ctr [.lf (.own (.int .i64) .dp)] K func93 rfl fun w0 E0 ht => ?_
 unfold F93 at h
 show VW _ _ _ _ _ (retQ _ _ _ _) _
 refine nR K (tn 1) <| sq <| sq <| VW.region <| nG K 1 (tn 1) ?_
 refine VO.isNil (d := 4) (e := (.int .i64)) (xs := a0) K rfl rfl rfl rfl (by kernel_rfl) (by kernel_rfl) (fun hx => ?_) ?_
 ·replace h : some ([]) = some r := by
   subst hx; first | exact h | exact (gd_some h).2
  refine nN K (tn 0) ?_
  refine VW.cond (b := true) (by kernel_rfl) (fun _ => ?_) (fun h' => nomatch h')
  refine nR K (tn 1) ?_
  cases h; exact VW.ret (rt [none])
 refine nN K (tn 0) ?_
 refine VW.cond (b := false) (by kernel_rfl) (fun h' => nomatch h') (fun _ => ?_)
 refine VW.skip ?_
 obtain⟨g1,h⟩:=gS h
 refine nR K (pu 2 (an g1 (tn 1))) ?_
 cases h; exact VW.ret (rt [some 0])
def F47_j0 (N : Nat) (x24 : (List Z73)) : Option ((List Z73)) :=
  some x24
def F47_l0_b (N : Nat) (a0 : (List Z73)) (nx42 : (List Z73) → Int → Int → Option ((List Z73))) (x33 : (List Z73)) (x34 : Int) (x35 : Int) : Option ((List Z73)) :=
  cond (decide (x35 < x34)) (gd (InR x35 a0.length) (andO (F93 N ((a0.getD x35.toNat (Ty.dflt Y73)).2.2.2.2.2.2)) fun y47 => gd (x33.length + ([((a0.getD x35.toNat (Ty.dflt Y73)).1, ((a0.getD x35.toNat (Ty.dflt Y73)).2.1, ((a0.getD x35.toNat (Ty.dflt Y73)).2.2.1, ((a0.getD x35.toNat (Ty.dflt Y73)).2.2.2.1, ((a0.getD x35.toNat (Ty.dflt Y73)).2.2.2.2.1, ((a0.getD x35.toNat (Ty.dflt Y73)).2.2.2.2.2.1, y47))))))]).length ≤ lim Y73) (nx42 (x33 ++ ([((a0.getD x35.toNat (Ty.dflt Y73)).1, ((a0.getD x35.toNat (Ty.dflt Y73)).2.1, ((a0.getD x35.toNat (Ty.dflt Y73)).2.2.1, ((a0.getD x35.toNat (Ty.dflt Y73)).2.2.2.1, ((a0.getD x35.toNat (Ty.dflt Y73)).2.2.2.2.1, ((a0.getD x35.toNat (Ty.dflt Y73)).2.2.2.2.2.1, y47))))))])) x34 (IntKind.i64.wrap (x35 + (1 : Int)))))) (F47_j0 N x33)
def F47_l0 (N : Nat) (a0 : (List Z73)) := loopF (F47_l0_b N a0) (fun _ _ _ => none)
theorem F47_l0_s N a0 {k} (hk : 0 < k) x33 x34 x35 : F47_l0 N a0 k x33 x34 x35 = F47_l0_b N a0 (F47_l0 N a0 (k - 1)) x33 x34 x35 := by cases k;cases hk;rfl
def F47 (N : Nat) (a0 : (List Z73)) : Option ((List Z73)) :=
  F47_l0 N a0 N ([]) (a0.length : Int) (0 : Int)
theorem ok47 N a0 {r} (h : F47 N a0 = some r) : Con prog 47 [Vv (.sl Y73) a0] [.lf (.own Y73 r .dp)] := by
 refine ctr [.lf (.own Y73 .dp)] K func47 rfl fun w0 E0 ht => ?_
 unfold F47 at h
 show VW _ _ _ _ _ (retQ _ _ _ _) _
 refine nR K (tn 1) <| nR K (tn 1) ?_
 refine VW.join (fun s => ∃ x24, s = ⟨[(3, hh 0)], [ar 0 Y73 x24 .dp]⟩ ∧ F47_j0 N x24 = some r) ?_ ?_
 ·refine nR K (tn 3) <| VW.block <| lop (fun k s => ∃ x33 x34 x35, s = ⟨[(3, hh 0), (6, Vv (.sl Y73) a0), (7, I x34), (8, I x35)], [ar 0 Y73 x33 .dp]⟩ ∧ F47_l0 N a0 k x33 x34 x35 = some r) N [.nilS 3 Y73 .dp, .ren [3, 6, 7, 8] [0]] ⟨[], (a0.length : Int), (0 : Int), rfl, h⟩ ?_
  rintro k42 s ⟨x33, x34, x35, rfl, h⟩
  cases k42 with
  | zero => cases show none = some r from h
  | succ k42 =>
   replace h : F47_l0_b N a0 (F47_l0 N a0 k42) x33 x34 x35 = some r := h
   unfold F47_l0_b at h
   refine nR K (tn 1) <| sq ?_
   refine cnd h ?_ ?_<;>intro h
   ·refine VW.skip <| sq <| VW.block ?_
    obtain⟨g46,h⟩:=gS h
    refine nR K (an g46 (tn 3)) <| sq <| VW.region <| nG K 2 (tn 2) ?_
    obtain⟨y47,hy,h⟩:=aS h
    refine clc false [.t (.sl (.int .i64))] [] (some 14) K (ok93 N _ hy) <| nN K (tn 2) <| VW.region <| nG K 2 (tn 2) <| VO.litA (d := 18) (v := hh 3) (H' := [ar 0 Y73 x33 .dp, bx [zi ((a0.getD x35.toNat D73).1), zs ((a0.getD x35.toNat D73).2.1), zi ((a0.getD x35.toNat D73).2.2.1), zi ((a0.getD x35.toNat D73).2.2.2.1), zi ((a0.getD x35.toNat D73).2.2.2.2.1), zb ((a0.getD x35.toNat D73).2.2.2.2.2.1), .hd 2 0 none] 74, none, ar 0 Y73 ([((a0.getD x35.toNat D73).1, ((a0.getD x35.toNat D73).2.1, ((a0.getD x35.toNat D73).2.2.1, ((a0.getD x35.toNat D73).2.2.2.1, ((a0.getD x35.toNat D73).2.2.2.2.1, ((a0.getD x35.toNat D73).2.2.2.2.2.1, y47))))))]) .dp]) K (by kernel_rfl) ?_
    obtain⟨g48,h⟩:=gS h
    refine VO.appM (d := 19) (φ := x33.length + ([((a0.getD x35.toNat D73).1, ((a0.getD x35.toNat D73).2.1, ((a0.getD x35.toNat D73).2.2.1, ((a0.getD x35.toNat D73).2.2.2.1, ((a0.getD x35.toNat D73).2.2.2.2.1, ((a0.getD x35.toNat D73).2.2.2.2.2.1, y47))))))]).length ≤ lim Y73) (v := .lf (.hd 0 1 none)) (H' := [ar 1 Y73 (x33 ++ ([((a0.getD x35.toNat D73).1, ((a0.getD x35.toNat D73).2.1, ((a0.getD x35.toNat D73).2.2.1, ((a0.getD x35.toNat D73).2.2.2.1, ((a0.getD x35.toNat D73).2.2.2.2.1, ((a0.getD x35.toNat D73).2.2.2.2.2.1, y47))))))])) .dp, bx [zi ((a0.getD x35.toNat D73).1), zs ((a0.getD x35.toNat D73).2.1), zi ((a0.getD x35.toNat D73).2.2.1), zi ((a0.getD x35.toNat D73).2.2.2.1), zi ((a0.getD x35.toNat D73).2.2.2.2.1), zb ((a0.getD x35.toNat D73).2.2.2.2.2.1), .hd 2 0 none] 74, none, none]) K (by kernel_rfl) g48 ?_
    refine nN K (tn 1) <| nE K (tn 2) ?_
    exact aro [.ren [3, 6, 7, 8] [0]] ⟨(x33 ++ ([((a0.getD x35.toNat D73).1, ((a0.getD x35.toNat D73).2.1, ((a0.getD x35.toNat D73).2.2.1, ((a0.getD x35.toNat D73).2.2.2.1, ((a0.getD x35.toNat D73).2.2.2.2.1, ((a0.getD x35.toNat D73).2.2.2.2.2.1, y47))))))])), x34, (wr (x35 + (1 : Int))), rfl, h⟩
   refine VW.exit ?_
   exact arv [.ren [3] [0]] ⟨x33, rfl, h⟩
 rintro s ⟨x24, rfl, h⟩
 unfold F47_j0 at h
 refine nR K (tn 2) ?_
 cases h; exact VW.ret (rt [some 0])
def F94_j0 (N : Nat) (x4 : (List Z73)) : Option ((List Z73)) :=
  some x4
def F94 (N : Nat) (a0 : (List Z73)) (a1 : Int) : Option ((List Z73)) :=
  cond (decide (a1 < (0 : Int))) (none) (cond (decide ((IntKind.i64.wrap (a1 - (IntKind.i64.wrap ((0 : Int) - (0 : Int))))) > (0 : Int))) (gd ((0 : Int) = (0 : Int)) (gd (0 ≤ (IntKind.i64.wrap (a1 - (IntKind.i64.wrap ((0 : Int) - (0 : Int))))) ∧ (IntKind.i64.wrap (a1 - (IntKind.i64.wrap ((0 : Int) - (0 : Int))))) ≤ (lim Y73 : Int)) (gd (0 ≤ (0 : Int) ∧ (0 : Int) ≤ ((List.replicate (IntKind.i64.wrap (a1 - (IntKind.i64.wrap ((0 : Int) - (0 : Int))))).toNat (Ty.dflt Y73)).length : Int)) (F94_j0 N ((List.replicate (IntKind.i64.wrap (a1 - (IntKind.i64.wrap ((0 : Int) - (0 : Int))))).toNat (Ty.dflt Y73)).take ((0 : Int).toNat)))))) (F94_j0 N ([])))
theorem ok94 N a0 a1 {r} (h : F94 N a0 a1 = some r) : Con prog 94 [.lf (.nil), I a1] [.lf (.own Y73 r .tp)] := by
 refine ctr [.lf (.own Y73 .tp)] K func94 rfl fun w0 E0 ht => ?_
 unfold F94 at h
 show VW _ _ _ _ _ (retQ _ _ _ _) _
 refine nR K (tn 1) <| sq <| nR K (tn 2) ?_
 refine cnd h ?_ ?_<;>intro h
 ·exact nomatch h
 refine VW.skip ?_
 refine VW.join (fun s => ∃ x4, s = ⟨[(0, hh 0)], [ar 0 Y73 x4 .tp]⟩ ∧ F94_j0 N x4 = some r) ?_ ?_
 ·refine sq <| VW.region <| nG K 2 (tn 2) <| VO.capN (d := 10) (v := I (0 : Int)) K (by kernel_rfl) <| nN K (tn 5) <| nR K (tn 2) ?_
  refine cnd h ?_ ?_<;>intro h
  ·refine VW.region <| nG K 2 (tn 2) <| VO.capN (d := 19) (v := I (0 : Int)) K (by kernel_rfl) ?_
   obtain⟨g6,h⟩:=gS h
   refine VO.cutN (d := 20) (φ := (0 : Int) = (0 : Int)) (v := .lf .nil) K (by kernel_rfl) g6 <| nG K 1 (tn 1) ?_
   obtain⟨g7,h⟩:=gS h
   refine VO.appZ (d := 22) (φ := 0 ≤ (wr (a1 - (wr ((0 : Int) - (0 : Int))))) ∧ (wr (a1 - (wr ((0 : Int) - (0 : Int))))) ≤ (lim Y73 : Int)) (v := hh 0) (H' := [ar 0 Y73 (List.replicate (wr (a1 - (wr ((0 : Int) - (0 : Int))))).toNat D73) .tp]) K (by kernel_rfl) g7 ?_
   obtain⟨g8,h⟩:=gS h
   refine nN K (pu 2 (an g8 (tn 1))) ?_
   exact arv [.shr 0, .ren [0] [0]] ⟨((List.replicate (wr (a1 - (wr ((0 : Int) - (0 : Int))))).toNat D73).take ((0 : Int).toNat)), rfl, h⟩
  refine VW.skip ?_
  exact arv [.nilS 0 Y73 .tp, .ren [0] [0]] ⟨[], rfl, h⟩
 rintro s ⟨x4, rfl, h⟩
 unfold F94_j0 at h
 refine nR K (tn 2) ?_
 cases h; exact VW.ret (rt [some 0])
end Go.Proofs.YtnkgeljjjeeaaaaGreatDoor.Vc
