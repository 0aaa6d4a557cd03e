/- What functions of the program compute, and that they do. -/
import Derived.Test.YtpaagnjoniiemaaGreatXc
import Derived.Test.YtpaagnjoniiemaaGreatProg
namespace Go.Proofs.YtpaagnjoniiemaaGreat.Vc
open Go Go.RowKit Go.Proofs.Tryz
set_option linter.unusedVariables false
set_option maxRecDepth 100000
set_option maxHeartbeats 4000000
abbrev Y7 : Ty := .pair (.int .i64) (.pair (.int .i64) (.pair .bool (.int .u8)))
abbrev Y13 : Ty := .pair .str (.int .u64)
abbrev Y49 : Ty := .pair .str (.int .i64)
abbrev Z49 := (ByteArray × Int)
abbrev Y52 : Ty := .pair (.int .i64) (.pair .str (.pair (.int .i64) (.pair (.int .i64) (.pair (.int .i64) (.pair .bool (.sl (.int .i64)))))))
abbrev Z52 := (Int × (ByteArray × (Int × (Int × (Int × (Bool × (List Int)))))))
abbrev D49 : (Y49).den := Ty.dflt Y49
abbrev D52 : (Y52).den := Ty.dflt Y52
def TL : List (Nat × TI) := [(2, { ty := (.int .i64) }),
  (3, { ty := (.int .i64) }),
  (4, { ty := .bool }),
  (5, { ty := (.int .u8) }),
  (6, { ty := (.int .u8) }),
  (7, { ty := Y7, offs := [0, 1, 2, 3], szs := [1, 1, 1, 1] }),
  (8, { ty := Y7, offs := [0, 1, 2, 3], szs := [1, 1, 1, 1] }),
  (9, { ty := .str }),
  (10, { ty := .str }),
  (11, { ty := .str }),
  (12, { ty := (.int .u64) }),
  (13, { ty := Y13, offs := [0, 1], szs := [1, 1] }),
  (14, { ty := Y13, offs := [0, 1], szs := [1, 1] }),
  (21, { ty := (.int .i32) }),
  (22, { ty := (.sl Y49), elem := 50 }),
  (23, { ty := (.sl (.sl (.sl (.int .i64)))), elem := 28 }),
  (24, { ty := (.sl Y52), elem := 53 }),
  (28, { ty := (.sl (.sl (.int .i64))), elem := 44 }),
  (31, { ty := (.sl Y49), elem := 60 }),
  (34, { ty := (.sl Y52), elem := 56 }),
  (44, { ty := (.sl (.int .i64)), elem := 3 }),
  (49, { ty := Y49, offs := [0, 1], szs := [1, 1] }),
  (50, { ty := Y49, offs := [0, 1], szs := [1, 1] }),
  (52, { ty := Y52, offs := [0, 1, 2, 3, 4, 5, 6], szs := [1, 1, 1, 1, 1, 1, 1] }),
  (53, { ty := Y52, offs := [0, 1, 2, 3, 4, 5, 6], szs := [1, 1, 1, 1, 1, 1, 1] }),
  (56, { ty := Y52, offs := [0, 1, 2, 3, 4, 5, 6], szs := [1, 1, 1, 1, 1, 1, 1] }),
  (60, { ty := Y49, offs := [0, 1], szs := [1, 1] }),
  (84, { ty := (.sl (.int .u8)), elem := 5 }),
  (104, { ty := (.int .u64) }),
  (112, { ty := (.int .u32) }),
  (113, { ty := (.int .u8) }),
  (114, { ty := (.int .u8) }),
  (117, { ty := (.int .i32) }),
  (118, { ty := (.int .i32) })]
abbrev T : Tab := lookT TL
theorem T_ok : TabOk Go.Proofs.Tryz.prog T := tabOk_of TL (by kernel_rfl)
theorem K : TabOk Go.Proofs.Tryz.prog T := T_ok
theorem T_rec : RecOk Go.Proofs.Tryz.prog T := recOk_of TL (by kernel_rfl)
def F27 (N : Nat) (a0 : Z49) (a1 : Int) : Option (Int) :=
  cond (decide ((IntKind.i64.wrap (a1 - (a0.1.size : Int))) < (0 : Int))) (some (-1 : Int)) (some (IntKind.i64.wrap (a1 - (a0.1.size : Int))))
theorem ok27 N a0 a1 {r} (h : F27 N a0 a1 = some r) : Con prog 27 [.agg (lv Y49 a0), I a1] [.lf (.v (.int .i64) r)] := by
 refine ctr [.lf (.v (.int .i64))] K func27 rfl fun w0 E0 ht => ?_
 unfold F27 at h
 show VW _ _ _ _ _ (retQ _ _ _ _) _
 refine nR K (tn 2) <| nR K (tn 6) <| sq <| nR K (tn 2) ?_
 refine cnd h ?_ ?_<;>intro h
 ·refine nR K (tn 1) ?_
  cases h; exact VW.ret (rt [])
 refine VW.skip <| nR K (tn 2) ?_
 cases h; exact VW.ret (rt [])
def F5_j0 (N : Nat) (x17 : Int) : Option (Int) :=
  some x17
def F5_l0_b (N : Nat) (a0 : (List Z49)) (nx30 : Int → Int → Option (Int)) (x24 : Int) (x25 : Int) : Option (Int) :=
  cond (decide (x25 < (a0.length : Int))) (gd (InR x25 a0.length) (andO (F27 N (a0.getD x25.toNat (Ty.dflt Y49)) x24) fun y34 => cond (decide (y34 < (0 : Int))) (some (-1 : Int)) (nx30 y34 (IntKind.i64.wrap (x25 + (1 : Int)))))) (F5_j0 N x24)
def F5_l0 (N : Nat) (a0 : (List Z49)) := loopF (F5_l0_b N a0) (fun _ _ => none)
theorem F5_l0_s N a0 {k} (hk : 0 < k) x24 x25 : F5_l0 N a0 k x24 x25 = F5_l0_b N a0 (F5_l0 N a0 (k - 1)) x24 x25 := by cases k;cases hk;rfl
def F5 (N : Nat) (a0 : (List Z49)) (a1 : Int) : Option (Int) :=
  cond (decide ((IntKind.i64.wrap (a1 - (a0.length : Int))) < (0 : Int))) (some (-1 : Int)) (F5_l0 N a0 N (IntKind.i64.wrap (a1 - (a0.length : Int))) (0 : Int))
theorem ok5 N a0 a1 {r} (h : F5 N a0 a1 = some r) : Con prog 5 [Vv (.sl Y49) a0, I a1] [.lf (.v (.int .i64) r)] := by
 refine ctr [.lf (.v (.int .i64))] K func5 rfl fun w0 E0 ht => ?_
 unfold F5 at h
 show VW _ _ _ _ _ (retQ _ _ _ _) _
 refine nR K (tn 1) <| nR K (tn 5) <| sq <| nR K (tn 2) ?_
 refine cnd h ?_ ?_<;>intro h
 ·refine nR K (tn 1) ?_
  cases h; exact VW.ret (rt [])
 refine VW.skip ?_
 refine VW.join (fun s => ∃ x17, s = ⟨[(1, I x17)], []⟩ ∧ F5_j0 N x17 = some r) ?_ ?_
 ·refine nR K (tn 1) <| VW.block <| lop (fun k s => ∃ x24 x25, s = ⟨[(0, Vv (.sl Y49) a0), (1, I x24), (5, I x25)], []⟩ ∧ F5_l0 N a0 k x24 x25 = some r) N [.ren [0, 1, 5] []] ⟨(wr (a1 - (a0.length : Int))), (0 : Int), rfl, h⟩ ?_
  rintro k30 s ⟨x24, x25, rfl, h⟩
  cases k30 with
  | zero => cases show none = some r from h
  | succ k30 =>
   replace h : F5_l0_b N a0 (F5_l0 N a0 k30) x24 x25 = some r := h
   unfold F5_l0_b at h
   refine sq <| nR K (tn 4) ?_
   refine cnd h ?_ ?_<;>intro h
   ·refine VW.skip <| sq <| VW.block <| sq <| VW.region ?_
    obtain⟨g33,h⟩:=gS h
    refine nG K 5 (pu 2 (an g33 (tn 2))) ?_
    obtain⟨y34,hy,h⟩:=aS h
    refine clc false [.t Y49, .t (.int .i64)] [] (some 23) K (ok27 N _ _ hy) <| nN K (tn 1) <| nR K (tn 2) ?_
    refine cnd h ?_ ?_<;>intro h
    ·refine nR K (tn 1) ?_
     cases h; exact VW.ret (rt [])
    refine VW.skip <| nE K (tn 3) ?_
    exact aro [.ren [0, 1, 5] []] ⟨y34, (wr (x25 + (1 : Int))), rfl, h⟩
   refine VW.exit ?_
   exact arv [.ren [1] []] ⟨x24, rfl, h⟩
 rintro s ⟨x17, rfl, h⟩
 unfold F5_j0 at h
 refine nR K (tn 2) ?_
 cases h; exact VW.ret (rt [])
def F45 (N : Nat) (a0 : (List Int)) (a1 : Int) : Option (Int) :=
  cond (decide ((IntKind.i64.wrap (a1 - (a0.length : Int))) < (0 : Int))) (some (-1 : Int)) (some (IntKind.i64.wrap (a1 - (a0.length : Int))))
theorem ok45 N a0 a1 {r} (h : F45 N a0 a1 = some r) : Con prog 45 [Vv (.sl (.int .i64)) a0, I a1] [.lf (.v (.int .i64) r)] := by
 refine ctr [.lf (.v (.int .i64))] K func45 rfl fun w0 E0 ht => ?_
 unfold F45 at h
 show VW _ _ _ _ _ (retQ _ _ _ _) _
 refine nR K (tn 1) <| nR K (tn 5) <| sq <| nR K (tn 2) ?_
 refine cnd h ?_ ?_<;>intro h
 ·refine nR K (tn 1) ?_
  cases h; exact VW.ret (rt [])
 refine VW.skip <| nR K (tn 2) ?_
 cases h; exact VW.ret (rt [])
def F28_j0 (N : Nat) (x17 : Int) : Option (Int) :=
  some x17
def F28_l0_b (N : Nat) (a0 : (List (List Int))) (nx30 : Int → Int → Option (Int)) (x24 : Int) (x25 : Int) : Option (Int) :=
  cond (decide (x25 < (a0.length : Int))) (gd (InR x25 a0.length) (andO (F45 N (a0.getD x25.toNat (Ty.dflt (.sl (.int .i64)))) x24) fun y34 => cond (decide (y34 < (0 : Int))) (some (-1 : Int)) (nx30 y34 (IntKind.i64.wrap (x25 + (1 : Int)))))) (F28_j0 N x24)
def F28_l0 (N : Nat) (a0 : (List (List Int))) := loopF (F28_l0_b N a0) (fun _ _ => none)
theorem F28_l0_s N a0 {k} (hk : 0 < k) x24 x25 : F28_l0 N a0 k x24 x25 = F28_l0_b N a0 (F28_l0 N a0 (k - 1)) x24 x25 := by cases k;cases hk;rfl
def F28 (N : Nat) (a0 : (List (List Int))) (a1 : Int) : Option (Int) :=
  cond (decide ((IntKind.i64.wrap (a1 - (a0.length : Int))) < (0 : Int))) (some (-1 : Int)) (F28_l0 N a0 N (IntKind.i64.wrap (a1 - (a0.length : Int))) (0 : Int))
theorem ok28 N a0 a1 {r} (h : F28 N a0 a1 = some r) : Con prog 28 [Vv (.sl (.sl (.int .i64))) a0, I a1] [.lf (.v (.int .i64) r)] := by
 refine ctr [.lf (.v (.int .i64))] K func28 rfl fun w0 E0 ht => ?_
 unfold F28 at h
 show VW _ _ _ _ _ (retQ _ _ _ _) _
 refine nR K (tn 1) <| nR K (tn 5) <| sq <| nR K (tn 2) ?_
 refine cnd h ?_ ?_<;>intro h
 ·refine nR K (tn 1) ?_
  cases h; exact VW.ret (rt [])
 refine VW.skip ?_
 refine VW.join (fun s => ∃ x17, s = ⟨[(1, I x17)], []⟩ ∧ F28_j0 N x17 = some r) ?_ ?_
 ·refine nR K (tn 1) <| VW.block <| lop (fun k s => ∃ x24 x25, s = ⟨[(0, Vv (.sl (.sl (.int .i64))) a0), (1, I x24), (5, I x25)], []⟩ ∧ F28_l0 N a0 k x24 x25 = some r) N [.ren [0, 1, 5] []] ⟨(wr (a1 - (a0.length : Int))), (0 : Int), rfl, h⟩ ?_
  rintro k30 s ⟨x24, x25, rfl, h⟩
  cases k30 with
  | zero => cases show none = some r from h
  | succ k30 =>
   replace h : F28_l0_b N a0 (F28_l0 N a0 k30) x24 x25 = some r := h
   unfold F28_l0_b at h
   refine sq <| nR K (tn 4) ?_
   refine cnd h ?_ ?_<;>intro h
   ·refine VW.skip <| sq <| VW.block <| sq <| VW.region ?_
    obtain⟨g33,h⟩:=gS h
    refine nG K 5 (pu 2 (an g33 (tn 2))) ?_
    obtain⟨y34,hy,h⟩:=aS h
    refine clc false [.t (.sl (.int .i64)), .t (.int .i64)] [] (some 23) K (ok45 N _ _ hy) <| nN K (tn 1) <| nR K (tn 2) ?_
    refine cnd h ?_ ?_<;>intro h
    ·refine nR K (tn 1) ?_
     cases h; exact VW.ret (rt [])
    refine VW.skip <| nE K (tn 3) ?_
    exact aro [.ren [0, 1, 5] []] ⟨y34, (wr (x25 + (1 : Int))), rfl, h⟩
   refine VW.exit ?_
   exact arv [.ren [1] []] ⟨x24, rfl, h⟩
 rintro s ⟨x17, rfl, h⟩
 unfold F28_j0 at h
 refine nR K (tn 2) ?_
 cases h; exact VW.ret (rt [])
def F6_j0 (N : Nat) (x17 : Int) : Option (Int) :=
  some x17
def F6_l0_b (N : Nat) (a0 : (List (List (List Int)))) (nx30 : Int → Int → Option (Int)) (x24 : Int) (x25 : Int) : Option (Int) :=
  cond (decide (x25 < (a0.length : Int))) (gd (InR x25 a0.length) (andO (F28 N (a0.getD x25.toNat (Ty.dflt (.sl (.sl (.int .i64))))) x24) fun y34 => cond (decide (y34 < (0 : Int))) (some (-1 : Int)) (nx30 y34 (IntKind.i64.wrap (x25 + (1 : Int)))))) (F6_j0 N x24)
def F6_l0 (N : Nat) (a0 : (List (List (List Int)))) := loopF (F6_l0_b N a0) (fun _ _ => none)
theorem F6_l0_s N a0 {k} (hk : 0 < k) x24 x25 : F6_l0 N a0 k x24 x25 = F6_l0_b N a0 (F6_l0 N a0 (k - 1)) x24 x25 := by cases k;cases hk;rfl
def F6 (N : Nat) (a0 : (List (List (List Int)))) (a1 : Int) : Option (Int) :=
  cond (decide ((IntKind.i64.wrap (a1 - (a0.length : Int))) < (0 : Int))) (some (-1 : Int)) (F6_l0 N a0 N (IntKind.i64.wrap (a1 - (a0.length : Int))) (0 : Int))
theorem ok6 N a0 a1 {r} (h : F6 N a0 a1 = some r) : Con prog 6 [Vv (.sl (.sl (.sl (.int .i64)))) a0, I a1] [.lf (.v (.int .i64) r)] := by
 refine ctr [.lf (.v (.int .i64))] K func6 rfl fun w0 E0 ht => ?_
 unfold F6 at h
 show VW _ _ _ _ _ (retQ _ _ _ _) _
 refine nR K (tn 1) <| nR K (tn 5) <| sq <| nR K (tn 2) ?_
 refine cnd h ?_ ?_<;>intro h
 ·refine nR K (tn 1) ?_
  cases h; exact VW.ret (rt [])
 refine VW.skip ?_
 refine VW.join (fun s => ∃ x17, s = ⟨[(1, I x17)], []⟩ ∧ F6_j0 N x17 = some r) ?_ ?_
 ·refine nR K (tn 1) <| VW.block <| lop (fun k s => ∃ x24 x25, s = ⟨[(0, Vv (.sl (.sl (.sl (.int .i64)))) a0), (1, I x24), (5, I x25)], []⟩ ∧ F6_l0 N a0 k x24 x25 = some r) N [.ren [0, 1, 5] []] ⟨(wr (a1 - (a0.length : Int))), (0 : Int), rfl, h⟩ ?_
  rintro k30 s ⟨x24, x25, rfl, h⟩
  cases k30 with
  | zero => cases show none = some r from h
  | succ k30 =>
   replace h : F6_l0_b N a0 (F6_l0 N a0 k30) x24 x25 = some r := h
   unfold F6_l0_b at h
   refine sq <| nR K (tn 4) ?_
   refine cnd h ?_ ?_<;>intro h
   ·refine VW.skip <| sq <| VW.block <| sq <| VW.region ?_
    obtain⟨g33,h⟩:=gS h
    refine nG K 5 (pu 2 (an g33 (tn 2))) ?_
    obtain⟨y34,hy,h⟩:=aS h
    refine clc false [.t (.sl (.sl (.int .i64))), .t (.int .i64)] [] (some 23) K (ok28 N _ _ hy) <| nN K (tn 1) <| nR K (tn 2) ?_
    refine cnd h ?_ ?_<;>intro h
    ·refine nR K (tn 1) ?_
     cases h; exact VW.ret (rt [])
    refine VW.skip <| nE K (tn 3) ?_
    exact aro [.ren [0, 1, 5] []] ⟨y34, (wr (x25 + (1 : Int))), rfl, h⟩
   refine VW.exit ?_
   exact arv [.ren [1] []] ⟨x24, rfl, h⟩
 rintro s ⟨x17, rfl, h⟩
 unfold F6_j0 at h
 refine nR K (tn 2) ?_
 cases h; exact VW.ret (rt [])
def F29 (N : Nat) (a0 : Z52) (a1 : Int) : Option (Int) :=
  cond (decide ((IntKind.i64.wrap (a1 - (a0.2.1.size : Int))) < (0 : Int))) (some (-1 : Int)) (andO (F45 N a0.2.2.2.2.2.2 (IntKind.i64.wrap (a1 - (a0.2.1.size : Int)))) fun y1 => cond (decide (y1 < (0 : Int))) (some (-1 : Int)) (some y1))
theorem ok29 N a0 a1 {r} (h : F29 N a0 a1 = some r) : Con prog 29 [.agg (lv Y52 a0), I a1] [.lf (.v (.int .i64) r)] := by
 refine ctr [.lf (.v (.int .i64))] K func29 rfl fun w0 E0 ht => ?_
 unfold F29 at h
 show VW _ _ _ _ _ (retQ _ _ _ _) _
 refine nR K (tn 2) <| nR K (tn 6) <| sq <| nR K (tn 2) ?_
 refine cnd h ?_ ?_<;>intro h
 ·refine nR K (tn 1) ?_
  cases h; exact VW.ret (rt [])
 refine VW.skip <| sq <| VW.region <| nG K 3 (tn 3) ?_
 obtain⟨y1,hy,h⟩:=aS h
 refine clc false [.t (.sl (.int .i64)), .t (.int .i64)] [] (some 15) K (ok45 N _ _ hy) <| nN K (tn 1) <| sq <| nR K (tn 2) ?_
 refine cnd h ?_ ?_<;>intro h
 ·refine nR K (tn 1) ?_
  cases h; exact VW.ret (rt [])
 refine VW.skip <| nR K (tn 2) ?_
 cases h; exact VW.ret (rt [])
def F7_j0 (N : Nat) (x17 : Int) : Option (Int) :=
  some x17
def F7_l0_b (N : Nat) (a0 : (List Z52)) (nx30 : Int → Int → Option (Int)) (x24 : Int) (x25 : Int) : Option (Int) :=
  cond (decide (x25 < (a0.length : Int))) (gd (InR x25 a0.length) (andO (F29 N (a0.getD x25.toNat (Ty.dflt Y52)) x24) fun y34 => cond (decide (y34 < (0 : Int))) (some (-1 : Int)) (nx30 y34 (IntKind.i64.wrap (x25 + (1 : Int)))))) (F7_j0 N x24)
def F7_l0 (N : Nat) (a0 : (List Z52)) := loopF (F7_l0_b N a0) (fun _ _ => none)
theorem F7_l0_s N a0 {k} (hk : 0 < k) x24 x25 : F7_l0 N a0 k x24 x25 = F7_l0_b N a0 (F7_l0 N a0 (k - 1)) x24 x25 := by cases k;cases hk;rfl
def F7 (N : Nat) (a0 : (List Z52)) (a1 : Int) : Option (Int) :=
  cond (decide ((IntKind.i64.wrap (a1 - (a0.length : Int))) < (0 : Int))) (some (-1 : Int)) (F7_l0 N a0 N (IntKind.i64.wrap (a1 - (a0.length : Int))) (0 : Int))
theorem ok7 N a0 a1 {r} (h : F7 N a0 a1 = some r) : Con prog 7 [Vv (.sl Y52) a0, I a1] [.lf (.v (.int .i64) r)] := by
 refine ctr [.lf (.v (.int .i64))] K func7 rfl fun w0 E0 ht => ?_
 unfold F7 at h
 show VW _ _ _ _ _ (retQ _ _ _ _) _
 refine nR K (tn 1) <| nR K (tn 5) <| sq <| nR K (tn 2) ?_
 refine cnd h ?_ ?_<;>intro h
 ·refine nR K (tn 1) ?_
  cases h; exact VW.ret (rt [])
 refine VW.skip ?_
 refine VW.join (fun s => ∃ x17, s = ⟨[(1, I x17)], []⟩ ∧ F7_j0 N x17 = some r) ?_ ?_
 ·refine nR K (tn 1) <| VW.block <| lop (fun k s => ∃ x24 x25, s = ⟨[(0, Vv (.sl Y52) a0), (1, I x24), (5, I x25)], []⟩ ∧ F7_l0 N a0 k x24 x25 = some r) N [.ren [0, 1, 5] []] ⟨(wr (a1 - (a0.length : Int))), (0 : Int), rfl, h⟩ ?_
  rintro k30 s ⟨x24, x25, rfl, h⟩
  cases k30 with
  | zero => cases show none = some r from h
  | succ k30 =>
   replace h : F7_l0_b N a0 (F7_l0 N a0 k30) x24 x25 = some r := h
   unfold F7_l0_b at h
   refine sq <| nR K (tn 4) ?_
   refine cnd h ?_ ?_<;>intro h
   ·refine VW.skip <| sq <| VW.block <| sq <| VW.region ?_
    obtain⟨g33,h⟩:=gS h
    refine nG K 5 (pu 2 (an g33 (tn 2))) ?_
    obtain⟨y34,hy,h⟩:=aS h
    refine clc false [.t Y52, .t (.int .i64)] [] (some 23) K (ok29 N _ _ hy) <| nN K (tn 1) <| nR K (tn 2) ?_
    refine cnd h ?_ ?_<;>intro h
    ·refine nR K (tn 1) ?_
     cases h; exact VW.ret (rt [])
    refine VW.skip <| nE K (tn 3) ?_
    exact aro [.ren [0, 1, 5] []] ⟨y34, (wr (x25 + (1 : Int))), rfl, h⟩
   refine VW.exit ?_
   exact arv [.ren [1] []] ⟨x24, rfl, h⟩
 rintro s ⟨x17, rfl, h⟩
 unfold F7_j0 at h
 refine nR K (tn 2) ?_
 cases h; exact VW.ret (rt [])
def F77 (N : Nat) (a0 : Int) (a1 : Int) (a2 : Int) : Option (Bool) :=
  cond (decide (a1 ≤ a0)) (some (decide (a0 ≤ a2))) (some false)
theorem ok77 N a0 a1 a2 {r} (h : F77 N a0 a1 a2 = some r) : Con prog 77 [I a0, I a1, I a2] [.lf (.v .bool r)] := by
 refine ctr [.lf (.v .bool)] K func77 rfl fun w0 E0 ht => ?_
 unfold F77 at h
 show VW _ _ _ _ _ (retQ _ _ _ _) _
 refine nR K (tn 1) <| sq <| VW.region <| nG K 4 (tn 4) ?_
 refine spC 10 h ?_ ?_<;>intro h
 ·refine nN K (tn 5) ?_
  cases h; exact VW.ret (rt [])
 refine nN K (tn 5) ?_
 cases h; exact VW.ret (rt [])
def F76_j0 (N : Nat) : Option (Bool) :=
  some true
def F76_j1 (N : Nat) (nx74 : Int → Option (Bool)) (x60 : Int) : Option (Bool) :=
  nx74 (IntKind.i64.wrap (x60 + (1 : Int)))
def F76_l0_b (N : Nat) (a0 : ByteArray) (nx74 : Int → Option (Bool)) (x60 : Int) : Option (Bool) :=
  cond (decide (x60 < (a0.size : Int))) (gd (InR x60 a0.size) (cond (decide (((a0.data.getD x60.toNat 0).toNat : Int) < (97 : Int))) (gd (InR x60 a0.size) (cond (decide (((a0.data.getD x60.toNat 0).toNat : Int) < (48 : Int))) (some false) (gd (InR x60 a0.size) (cond (decide (((a0.data.getD x60.toNat 0).toNat : Int) > (57 : Int))) (some false) (F76_j1 N nx74 x60))))) (gd (InR x60 a0.size) (cond (decide (((a0.data.getD x60.toNat 0).toNat : Int) > (122 : Int))) (gd (InR x60 a0.size) (cond (decide (((a0.data.getD x60.toNat 0).toNat : Int) < (48 : Int))) (some false) (gd (InR x60 a0.size) (cond (decide (((a0.data.getD x60.toNat 0).toNat : Int) > (57 : Int))) (some false) (F76_j1 N nx74 x60))))) (F76_j1 N nx74 x60))))) (F76_j0 N)
def F76_l0 (N : Nat) (a0 : ByteArray) := loopF (F76_l0_b N a0) (fun _ => none)
theorem F76_l0_s N a0 {k} (hk : 0 < k) x60 : F76_l0 N a0 k x60 = F76_l0_b N a0 (F76_l0 N a0 (k - 1)) x60 := by cases k;cases hk;rfl
def F76 (N : Nat) (a0 : ByteArray) : Option (Bool) :=
  andO (F77 N (a0.size : Int) (1 : Int) (12 : Int)) fun y3 => cond (!y3) (some false) (gd (InR (0 : Int) a0.size) (cond (decide (((a0.data.getD (0 : Int).toNat 0).toNat : Int) < (97 : Int))) (some false) (F76_l0 N a0 N (0 : Int))))
theorem ok76 N a0 {r} (h : F76 N a0 = some r) : Con prog 76 [S a0] [.lf (.v .bool r)] := by
 refine ctr [.lf (.v .bool)] K func76 rfl fun w0 E0 ht => ?_
 unfold F76 at h
 show VW _ _ _ _ _ (retQ _ _ _ _) _
 refine nR K (tn 1) <| sq <| sq <| VW.region <| nG K 2 (tn 2) ?_
 obtain⟨y3,hy,h⟩:=aS h
 refine clc false [.t (.int .i64), .t (.int .i64), .t (.int .i64)] [] (some 6) K (ok77 N _ _ _ hy) <| nG K 2 (tn 2) ?_
 refine spC 8 h ?_ ?_<;>intro h
 ·refine nN K (tn 4) ?_
  refine VW.cond (b := true) (by kernel_rfl) (fun _ => ?_) (fun h' => nomatch h')
  refine nR K (tn 1) ?_
  cases h; exact VW.ret (rt [])
 obtain⟨g4,h⟩:=gS h
 refine nN K (pu 1 (an g4 (tn 2))) ?_
 refine cnd h ?_ ?_<;>intro h
 ·refine nR K (tn 1) ?_
  cases h; exact VW.ret (rt [])
 refine VW.skip ?_
 refine VW.join (fun s => s = ⟨[], []⟩ ∧ F76_j0 N = some r) ?_ ?_
 ·refine nR K (tn 1) <| VW.block <| lop (fun k s => ∃ x60, s = ⟨[(0, S a0), (3, I x60)], []⟩ ∧ F76_l0 N a0 k x60 = some r) N [.ren [0, 3] []] ⟨(0 : Int), rfl, h⟩ ?_
  rintro k74 s ⟨x60, rfl, h⟩
  cases k74 with
  | zero => cases show none = some r from h
  | succ k74 =>
   replace h : F76_l0_b N a0 (F76_l0 N a0 k74) x60 = some r := h
   unfold F76_l0_b at h
   refine sq <| nR K (tn 4) ?_
   refine cnd h ?_ ?_<;>intro h
   ·refine VW.skip ?_
    refine VW.join (fun s => s = ⟨[(0, S a0), (3, I x60)], []⟩ ∧ F76_j1 N (F76_l0 N a0 k74) x60 = some r) ?_ ?_
    ·refine VW.block <| sq <| VW.region ?_
     obtain⟨g82,h⟩:=gS h
     refine nG K 5 (pu 2 (an g82 (tn 2))) ?_
     refine spC 23 h ?_ ?_<;>intro h
     ·obtain⟨g83,h⟩:=gS h
      refine nG K 11 (pu 8 (an g83 (tn 2))) ?_
      refine spC 34 h ?_ ?_<;>intro h
      ·refine nN K (tn 6) ?_
       refine VW.cond (b := true) (by kernel_rfl) (fun _ => ?_) (fun h' => nomatch h')
       refine nR K (tn 1) ?_
       cases h; exact VW.ret (rt [])
      obtain⟨g84,h⟩:=gS h
      refine nN K (pu 2 (an g84 (tn 3))) ?_
      refine cnd h ?_ ?_<;>intro h
      ·refine nR K (tn 1) ?_
       cases h; exact VW.ret (rt [])
      refine VW.skip ?_
      exact arv [.ren [0, 3] []] ⟨rfl, h⟩
     obtain⟨g85,h⟩:=gS h
     refine nG K 6 (pu 2 (an g85 (tn 3))) ?_
     refine spC 29 h ?_ ?_<;>intro h
     ·obtain⟨g86,h⟩:=gS h
      refine nG K 5 (pu 2 (an g86 (tn 2))) ?_
      refine spC 34 h ?_ ?_<;>intro h
      ·refine nN K (tn 6) ?_
       refine VW.cond (b := true) (by kernel_rfl) (fun _ => ?_) (fun h' => nomatch h')
       refine nR K (tn 1) ?_
       cases h; exact VW.ret (rt [])
      obtain⟨g87,h⟩:=gS h
      refine nN K (pu 2 (an g87 (tn 3))) ?_
      refine cnd h ?_ ?_<;>intro h
      ·refine nR K (tn 1) ?_
       cases h; exact VW.ret (rt [])
      refine VW.skip ?_
      exact arv [.ren [0, 3] []] ⟨rfl, h⟩
     refine nN K (tn 11) ?_
     refine VW.cond (b := false) (by kernel_rfl) (fun h' => nomatch h') (fun _ => ?_)
     refine VW.skip ?_
     exact arv [.ren [0, 3] []] ⟨rfl, h⟩
    rintro s ⟨rfl, h⟩
    unfold F76_j1 at h
    refine nE K (tn 3) ?_
    exact aro [.ren [0, 3] []] ⟨(wr (x60 + (1 : Int))), rfl, h⟩
   refine VW.exit ?_
   exact arv [.ren [] []] ⟨rfl, h⟩
 rintro s ⟨rfl, h⟩
 unfold F76_j0 at h
 refine nR K (tn 1) ?_
 cases h; exact VW.ret (rt [])
def F78_j0 (N : Nat) (a0 : ByteArray) (a1 : ByteArray) : Option (Bool) :=
  some (decide ((a0.size : Int) < (a1.size : Int)))
def F78_l0_b (N : Nat) (a0 : ByteArray) (a1 : ByteArray) (nx45 : Int → Option (Bool)) (x36 : Int) : Option (Bool) :=
  cond (decide (x36 < (a0.size : Int))) (cond (decide (x36 < (a1.size : Int))) (gd (InR x36 a0.size) (gd (InR x36 a1.size) (cond (((a0.data.getD x36.toNat 0).toNat : Int) != ((a1.data.getD x36.toNat 0).toNat : Int)) (gd (InR x36 a0.size) (gd (InR x36 a1.size) (some (decide (((a0.data.getD x36.toNat 0).toNat : Int) < ((a1.data.getD x36.toNat 0).toNat : Int)))))) (nx45 (IntKind.i64.wrap (x36 + (1 : Int))))))) (F78_j0 N a0 a1)) (F78_j0 N a0 a1)
def F78_l0 (N : Nat) (a0 : ByteArray) (a1 : ByteArray) := loopF (F78_l0_b N a0 a1) (fun _ => none)
theorem F78_l0_s N a0 a1 {k} (hk : 0 < k) x36 : F78_l0 N a0 a1 k x36 = F78_l0_b N a0 a1 (F78_l0 N a0 a1 (k - 1)) x36 := by cases k;cases hk;rfl
def F78 (N : Nat) (a0 : ByteArray) (a1 : ByteArray) : Option (Bool) :=
  F78_l0 N a0 a1 N (0 : Int)
theorem ok78 N a0 a1 {r} (h : F78 N a0 a1 = some r) : Con prog 78 [S a0, S a1] [.lf (.v .bool r)] := by
 refine ctr [.lf (.v .bool)] K func78 rfl fun w0 E0 ht => ?_
 unfold F78 at h
 show VW _ _ _ _ _ (retQ _ _ _ _) _
 refine nR K (tn 1) ?_
 refine VW.join (fun s => s = ⟨[(0, S a0), (1, S a1)], []⟩ ∧ F78_j0 N a0 a1 = some r) ?_ ?_
 ·refine nR K (tn 1) <| VW.block <| lop (fun k s => ∃ x36, s = ⟨[(0, S a0), (1, S a1), (5, I x36)], []⟩ ∧ F78_l0 N a0 a1 k x36 = some r) N [.ren [0, 1, 5] []] ⟨(0 : Int), rfl, h⟩ ?_
  rintro k45 s ⟨x36, rfl, h⟩
  cases k45 with
  | zero => cases show none = some r from h
  | succ k45 =>
   replace h : F78_l0_b N a0 a1 (F78_l0 N a0 a1 k45) x36 = some r := h
   unfold F78_l0_b at h
   refine sq <| sq <| VW.region <| nG K 5 (tn 5) ?_
   refine spC 10 h ?_ ?_<;>intro h
   ·refine nN K (tn 5) ?_
    refine cnd h ?_ ?_<;>intro h
    ·refine VW.skip <| sq <| VW.block <| sq ?_
     obtain⟨g50,h⟩:=gS h
     obtain⟨g51,h⟩:=gS h
     refine dr K [] [] [] [0, 1, 5, 24] [] (pu 2 (an g50 (pu 2 (an g51 (tn 1))))) trivial ?_
     refine cnd h ?_ ?_<;>intro h
     ·refine sq ?_
      obtain⟨g52,h⟩:=gS h
      obtain⟨g53,h⟩:=gS h
      refine dr K [] [] [] [4] [] (pu 2 (an g52 (pu 2 (an g53 (tn 2))))) trivial ?_
      cases h; exact VW.ret (rt [])
     refine VW.skip <| nE K (tn 3) ?_
     exact aro [.ren [0, 1, 5] []] ⟨(wr (x36 + (1 : Int))), rfl, h⟩
    refine VW.exit ?_
    exact arv [.ren [0, 1] []] ⟨rfl, h⟩
   refine nN K (tn 5) ?_
   refine VW.cond (b := false) (by kernel_rfl) (fun h' => nomatch h') (fun _ => ?_)
   refine VW.exit ?_
   exact arv [.ren [0, 1] []] ⟨rfl, h⟩
 rintro s ⟨rfl, h⟩
 unfold F78_j0 at h
 refine nR K (tn 6) ?_
 cases h; exact VW.ret (rt [])
def F46_j0 (N : Nat) : Option (Bool) :=
  some true
def F46_j1 (N : Nat) (nx110 : Int → Option (Bool)) (x88 : Int) : Option (Bool) :=
  nx110 (IntKind.i64.wrap (x88 + (1 : Int)))
def F46_l0_b (N : Nat) (a0 : (List Z49)) (nx110 : Int → Option (Bool)) (x88 : Int) : Option (Bool) :=
  cond (decide (x88 < (a0.length : Int))) (gd (InR x88 a0.length) (andO (F76 N ((a0.getD x88.toNat (Ty.dflt Y49)).1)) fun y123 => cond (!y123) (some false) (gd (InR x88 a0.length) (andO (F77 N ((a0.getD x88.toNat (Ty.dflt Y49)).2) (1 : Int) (6 : Int)) fun y126 => cond (!y126) (some false) (cond (decide (x88 > (0 : Int))) (gd (InR (IntKind.i64.wrap (x88 - (1 : Int))) a0.length) (gd (InR x88 a0.length) (andO (F78 N ((a0.getD (IntKind.i64.wrap (x88 - (1 : Int))).toNat (Ty.dflt Y49)).1) ((a0.getD x88.toNat (Ty.dflt Y49)).1)) fun y131 => cond (!y131) (some false) (F46_j1 N nx110 x88)))) (F46_j1 N nx110 x88)))))) (F46_j0 N)
def F46_l0 (N : Nat) (a0 : (List Z49)) := loopF (F46_l0_b N a0) (fun _ => none)
theorem F46_l0_s N a0 {k} (hk : 0 < k) x88 : F46_l0 N a0 k x88 = F46_l0_b N a0 (F46_l0 N a0 (k - 1)) x88 := by cases k;cases hk;rfl
def F46 (N : Nat) (a0 : (List Z49)) : Option (Bool) :=
  cond (decide ((a0.length : Int) > (8 : Int))) (some false) (F46_l0 N a0 N (0 : Int))
theorem ok46 N a0 {r} (h : F46 N a0 = some r) : Con prog 46 [Vv (.sl Y49) a0] [.lf (.v .bool r)] := by
 refine ctr [.lf (.v .bool)] K func46 rfl fun w0 E0 ht => ?_
 unfold F46 at h
 show VW _ _ _ _ _ (retQ _ _ _ _) _
 refine nR K (tn 1) <| sq <| nR K (tn 3) ?_
 refine cnd h ?_ ?_<;>intro h
 ·refine nR K (tn 1) ?_
  cases h; exact VW.ret (rt [])
 refine VW.skip ?_
 refine VW.join (fun s => s = ⟨[], []⟩ ∧ F46_j0 N = some r) ?_ ?_
 ·refine nR K (tn 1) <| VW.block <| lop (fun k s => ∃ x88, s = ⟨[(0, Vv (.sl Y49) a0), (3, I x88)], []⟩ ∧ F46_l0 N a0 k x88 = some r) N [.ren [0, 3] []] ⟨(0 : Int), rfl, h⟩ ?_
  rintro k110 s ⟨x88, rfl, h⟩
  cases k110 with
  | zero => cases show none = some r from h
  | succ k110 =>
   replace h : F46_l0_b N a0 (F46_l0 N a0 k110) x88 = some r := h
   unfold F46_l0_b at h
   refine sq <| nR K (tn 4) ?_
   refine cnd h ?_ ?_<;>intro h
   ·refine VW.skip ?_
    refine VW.join (fun s => s = ⟨[(0, Vv (.sl Y49) a0), (3, I x88)], []⟩ ∧ F46_j1 N (F46_l0 N a0 k110) x88 = some r) ?_ ?_
    ·refine VW.block <| sq ?_
     obtain⟨g122,h⟩:=gS h
     obtain⟨y123,hy123,h⟩:=aS h
     rcases Bool.eq_false_or_eq_true (!y123) with hb124 | hb124
     ·replace h := cond_t h hb124
      refine dr K [(5, .cl [] (some 18) [.lf (.v .bool y123)]), (7, .lit true)] [(5, 0), (7, 0)] [] [0, 3, 47] [] (pu 2 (an g122 (tn 32))) ⟨qC false [.t .str] [] [] (some 18) K (ok76 N _ hy123), qB 20 hb124 K trivial, trivial⟩ ?_
      refine VW.cond (b := true) (by kernel_rfl) (fun _ => ?_) (fun h' => nomatch h')
      refine nR K (tn 1) ?_
      cases h; exact VW.ret (rt [])
     replace h := cond_f h hb124
     obtain⟨g125,h⟩:=gS h
     obtain⟨y126,hy126,h⟩:=aS h
     rcases Bool.eq_false_or_eq_true (!y126) with hb127 | hb127
     ·replace h := cond_t h hb127
      refine dr K [(5, .cl [] (some 18) [.lf (.v .bool y123)]), (7, .lit false), (13, .cl [] (some 26) [.lf (.v .bool y126)]), (16, .lit true)] [(5, 0), (7, 0), (13, 0), (16, 0)] [] [0, 3, 47] [] (pu 2 (an g122 (pu 7 (an g125 (tn 24))))) ⟨qC false [.t .str] [] [] (some 18) K (ok76 N _ hy123), qB 20 hb124 K trivial, qC false [.t (.int .i64), .t (.int .i64), .t (.int .i64)] [] [] (some 26) K (ok77 N _ _ _ hy126), qB 29 hb127 K trivial, trivial⟩ ?_
      refine VW.cond (b := true) (by kernel_rfl) (fun _ => ?_) (fun h' => nomatch h')
      refine nR K (tn 1) ?_
      cases h; exact VW.ret (rt [])
     replace h := cond_f h hb127
     rcases Bool.eq_false_or_eq_true (decide (x88 > (0 : Int))) with hb128 | hb128
     ·replace h := cond_t h hb128
      obtain⟨g129,h⟩:=gS h
      obtain⟨g130,h⟩:=gS h
      obtain⟨y131,hy131,h⟩:=aS h
      refine dr K [(5, .cl [] (some 18) [.lf (.v .bool y123)]), (7, .lit false), (13, .cl [] (some 26) [.lf (.v .bool y126)]), (16, .lit false), (19, .lit true), (31, .cl [] (some 44) [.lf (.v .bool y131)])] [(5, 0), (7, 0), (13, 0), (16, 0), (19, 0), (31, 0)] [] [0, 3, 47] [] (pu 2 (an g122 (pu 7 (an g125 (pu 12 (an g129 (pu 4 (an g130 (tn 6))))))))) ⟨qC false [.t .str] [] [] (some 18) K (ok76 N _ hy123), qB 20 hb124 K trivial, qC false [.t (.int .i64), .t (.int .i64), .t (.int .i64)] [] [] (some 26) K (ok77 N _ _ _ hy126), qB 29 hb127 K trivial, qB 32 hb128 K trivial, qC false [.t .str, .t .str] [] [] (some 44) K (ok78 N _ _ hy131), trivial⟩ ?_
      refine cnd h ?_ ?_<;>intro h
      ·refine nR K (tn 1) ?_
       cases h; exact VW.ret (rt [])
      refine VW.skip ?_
      exact arv [.ren [0, 3] []] ⟨rfl, h⟩
     replace h := cond_f h hb128
     refine dr K [(5, .cl [] (some 18) [.lf (.v .bool y123)]), (7, .lit false), (13, .cl [] (some 26) [.lf (.v .bool y126)]), (16, .lit false), (19, .lit false)] [(5, 0), (7, 0), (13, 0), (16, 0), (19, 0)] [] [0, 3, 47] [] (pu 2 (an g122 (pu 7 (an g125 (tn 24))))) ⟨qC false [.t .str] [] [] (some 18) K (ok76 N _ hy123), qB 20 hb124 K trivial, qC false [.t (.int .i64), .t (.int .i64), .t (.int .i64)] [] [] (some 26) K (ok77 N _ _ _ hy126), qB 29 hb127 K trivial, qB 32 hb128 K trivial, trivial⟩ ?_
     refine VW.cond (b := false) (by kernel_rfl) (fun h' => nomatch h') (fun _ => ?_)
     refine VW.skip ?_
     exact arv [.ren [0, 3] []] ⟨rfl, h⟩
    rintro s ⟨rfl, h⟩
    unfold F46_j1 at h
    refine nE K (tn 3) ?_
    exact aro [.ren [0, 3] []] ⟨(wr (x88 + (1 : Int))), rfl, h⟩
   refine VW.exit ?_
   exact arv [.ren [] []] ⟨rfl, h⟩
 rintro s ⟨rfl, h⟩
 unfold F46_j0 at h
 refine nR K (tn 1) ?_
 cases h; exact VW.ret (rt [])
def F79 (N : Nat) (a0 : Int) : Option (Bool) :=
  andO (F77 N a0 (-1000000 : Int) (1000000 : Int)) fun y1 => some y1
theorem ok79 N a0 {r} (h : F79 N a0 = some r) : Con prog 79 [I a0] [.lf (.v .bool r)] := by
 refine ctr [.lf (.v .bool)] K func79 rfl fun w0 E0 ht => ?_
 unfold F79 at h
 show VW _ _ _ _ _ (retQ _ _ _ _) _
 refine nR K (tn 1) <| sq <| VW.region <| nG K 1 (tn 1) ?_
 obtain⟨y1,hy,h⟩:=aS h
 refine clc false [.t (.int .i64), .t (.int .i64), .t (.int .i64)] [] (some 4) K (ok77 N _ _ _ hy) <| nN K (tn 1) ?_
 cases h; exact VW.ret (rt [])
def F47 (N : Nat) (a0 : Int) : Option (Bool) :=
  andO (F79 N a0) fun y1 => cond y1 (some true) (some (a0 == (-2000000 : Int)))
theorem ok47 N a0 {r} (h : F47 N a0 = some r) : Con prog 47 [I a0] [.lf (.v .bool r)] := by
 refine ctr [.lf (.v .bool)] K func47 rfl fun w0 E0 ht => ?_
 unfold F47 at h
 show VW _ _ _ _ _ (retQ _ _ _ _) _
 refine nR K (tn 1) <| sq <| VW.region <| nG K 1 (tn 1) ?_
 obtain⟨y1,hy,h⟩:=aS h
 refine clc false [.t (.int .i64)] [] (some 4) K (ok79 N _ hy) <| nG K 1 (tn 1) ?_
 refine spC 5 h ?_ ?_<;>intro h
 ·refine nN K (tn 4) ?_
  cases h; exact VW.ret (rt [])
 refine nN K (tn 4) ?_
 cases h; exact VW.ret (rt [])
def F30_j0 (N : Nat) : Option (Bool) :=
  some true
def F30_j1 (N : Nat) (nx2782 : Int → Option (Bool)) (x2226 : Int) : Option (Bool) :=
  nx2782 (IntKind.i64.wrap (x2226 + (1 : Int)))
def F30_j2 (N : Nat) (nx3246 : Int → Option (Bool)) (x3154 : Int) : Option (Bool) :=
  nx3246 (IntKind.i64.wrap (x3154 + (1 : Int)))
def F30_l0_b (N : Nat) (a1 : (List (List (List Int)))) (nx3246 : Int → Option (Bool)) (x2226 : Int) (x3154 : Int) (nx3325 : Int → Option (Bool)) (x3312 : Int) : Option (Bool) :=
  gd (InR x2226 a1.length) (gd (InR x3154 (a1.getD x2226.toNat (Ty.dflt (.sl (.sl (.int .i64))))).length) (cond (decide (x3312 < (((a1.getD x2226.toNat (Ty.dflt (.sl (.sl (.int .i64))))).getD x3154.toNat (Ty.dflt (.sl (.int .i64)))).length : Int))) (gd (InR x2226 a1.length) (gd (InR x3154 (a1.getD x2226.toNat (Ty.dflt (.sl (.sl (.int .i64))))).length) (gd (InR x3312 ((a1.getD x2226.toNat (Ty.dflt (.sl (.sl (.int .i64))))).getD x3154.toNat (Ty.dflt (.sl (.int .i64)))).length) (andO (F47 N (((a1.getD x2226.toNat (Ty.dflt (.sl (.sl (.int .i64))))).getD x3154.toNat (Ty.dflt (.sl (.int .i64)))).getD x3312.toNat (Ty.dflt (.int .i64)))) fun y3337 => cond (!y3337) (some false) (nx3325 (IntKind.i64.wrap (x3312 + (1 : Int)))))))) (F30_j2 N nx3246 x3154)))
def F30_l0 (N : Nat) (a1 : (List (List (List Int)))) (nx3246 : Int → Option (Bool)) (x2226 : Int) (x3154 : Int) := loopF (F30_l0_b N a1 nx3246 x2226 x3154) (fun _ => none)
theorem F30_l0_s N a1 nx3246 x2226 x3154 {k} (hk : 0 < k) x3312 : F30_l0 N a1 nx3246 x2226 x3154 k x3312 = F30_l0_b N a1 nx3246 x2226 x3154 (F30_l0 N a1 nx3246 x2226 x3154 (k - 1)) x3312 := by cases k;cases hk;rfl
def F30_l1_b (N : Nat) (a0 : (List Z49)) (a1 : (List (List (List Int)))) (nx2782 : Int → Option (Bool)) (x2226 : Int) (nx3246 : Int → Option (Bool)) (x3154 : Int) : Option (Bool) :=
  gd (InR x2226 a1.length) (cond (decide (x3154 < ((a1.getD x2226.toNat (Ty.dflt (.sl (.sl (.int .i64))))).length : Int))) (gd (InR x2226 a1.length) (gd (InR x3154 (a1.getD x2226.toNat (Ty.dflt (.sl (.sl (.int .i64))))).length) (gd (InR x2226 a0.length) (cond ((((a1.getD x2226.toNat (Ty.dflt (.sl (.sl (.int .i64))))).getD x3154.toNat (Ty.dflt (.sl (.int .i64)))).length : Int) != ((a0.getD x2226.toNat (Ty.dflt Y49)).2)) (some false) (F30_l0 N a1 nx3246 x2226 x3154 N (0 : Int)))))) (F30_j1 N nx2782 x2226))
def F30_l1 (N : Nat) (a0 : (List Z49)) (a1 : (List (List (List Int)))) (nx2782 : Int → Option (Bool)) (x2226 : Int) := loopF (F30_l1_b N a0 a1 nx2782 x2226) (fun _ => none)
theorem F30_l1_s N a0 a1 nx2782 x2226 {k} (hk : 0 < k) x3154 : F30_l1 N a0 a1 nx2782 x2226 k x3154 = F30_l1_b N a0 a1 nx2782 x2226 (F30_l1 N a0 a1 nx2782 x2226 (k - 1)) x3154 := by cases k;cases hk;rfl
def F30_l2_b (N : Nat) (a0 : (List Z49)) (a1 : (List (List (List Int)))) (nx2782 : Int → Option (Bool)) (x2226 : Int) : Option (Bool) :=
  cond (decide (x2226 < (a0.length : Int))) (gd (InR x2226 a1.length) (cond (decide (((a1.getD x2226.toNat (Ty.dflt (.sl (.sl (.int .i64))))).length : Int) > (40 : Int))) (some false) (F30_l1 N a0 a1 nx2782 x2226 N (0 : Int)))) (F30_j0 N)
def F30_l2 (N : Nat) (a0 : (List Z49)) (a1 : (List (List (List Int)))) := loopF (F30_l2_b N a0 a1) (fun _ => none)
theorem F30_l2_s N a0 a1 {k} (hk : 0 < k) x2226 : F30_l2 N a0 a1 k x2226 = F30_l2_b N a0 a1 (F30_l2 N a0 a1 (k - 1)) x2226 := by cases k;cases hk;rfl
def F30 (N : Nat) (a0 : (List Z49)) (a1 : (List (List (List Int)))) : Option (Bool) :=
  andO (F46 N a0) fun y2 => cond (!y2) (some false) (cond ((a1.length : Int) != (a0.length : Int)) (some false) (F30_l2 N a0 a1 N (0 : Int)))
theorem ok30 N a0 a1 {r} (h : F30 N a0 a1 = some r) : Con prog 30 [Vv (.sl Y49) a0, Vv (.sl (.sl (.sl (.int .i64)))) a1] [.lf (.v .bool r)] := by
 refine ctr [.lf (.v .bool)] K func30 rfl fun w0 E0 ht => ?_
 unfold F30 at h
 show VW _ _ _ _ _ (retQ _ _ _ _) _
 refine nR K (tn 1) <| sq <| sq <| VW.region <| nG K 1 (tn 1) ?_
 obtain⟨y2,hy,h⟩:=aS h
 refine clc false [.t (.sl Y49)] [] (some 9) K (ok46 N _ hy) <| nG K 2 (tn 2) ?_
 refine spC 11 h ?_ ?_<;>intro h
 ·refine nN K (tn 6) ?_
  refine VW.cond (b := true) (by kernel_rfl) (fun _ => ?_) (fun h' => nomatch h')
  refine nR K (tn 1) ?_
  cases h; exact VW.ret (rt [])
 refine nN K (tn 6) ?_
 refine cnd h ?_ ?_<;>intro h
 ·refine nR K (tn 1) ?_
  cases h; exact VW.ret (rt [])
 refine VW.skip ?_
 refine VW.join (fun s => s = ⟨[], []⟩ ∧ F30_j0 N = some r) ?_ ?_
 ·refine nR K (tn 1) <| VW.block <| lop (fun k s => ∃ x2226, s = ⟨[(0, Vv (.sl Y49) a0), (1, Vv (.sl (.sl (.sl (.int .i64)))) a1), (5, I x2226)], []⟩ ∧ F30_l2 N a0 a1 k x2226 = some r) N [.ren [0, 1, 5] []] ⟨(0 : Int), rfl, h⟩ ?_
  rintro k2782 s ⟨x2226, rfl, h⟩
  cases k2782 with
  | zero => cases show none = some r from h
  | succ k2782 =>
   replace h : F30_l2_b N a0 a1 (F30_l2 N a0 a1 k2782) x2226 = some r := h
   unfold F30_l2_b at h
   refine sq <| nR K (tn 4) ?_
   refine cnd h ?_ ?_<;>intro h
   ·refine VW.skip ?_
    refine VW.join (fun s => s = ⟨[(0, Vv (.sl Y49) a0), (1, Vv (.sl (.sl (.sl (.int .i64)))) a1), (5, I x2226)], []⟩ ∧ F30_j1 N (F30_l2 N a0 a1 k2782) x2226 = some r) ?_ ?_
    ·refine VW.block <| sq ?_
     obtain⟨g3062,h⟩:=gS h
     refine nR K (pu 2 (an g3062 (tn 3))) ?_
     refine cnd h ?_ ?_<;>intro h
     ·refine nR K (tn 1) ?_
      cases h; exact VW.ret (rt [])
     refine VW.skip <| nR K (tn 1) <| VW.block <| lop (fun k s => ∃ x3154, s = ⟨[(0, Vv (.sl Y49) a0), (1, Vv (.sl (.sl (.sl (.int .i64)))) a1), (5, I x2226), (6, I x3154)], []⟩ ∧ F30_l1 N a0 a1 (F30_l2 N a0 a1 k2782) x2226 k x3154 = some r) N [.ren [0, 1, 5, 6] []] ⟨(0 : Int), rfl, h⟩ ?_
     rintro k3246 s ⟨x3154, rfl, h⟩
     cases k3246 with
     | zero => cases show none = some r from h
     | succ k3246 =>
      replace h : F30_l1_b N a0 a1 (F30_l2 N a0 a1 k2782) x2226 (F30_l1 N a0 a1 (F30_l2 N a0 a1 k2782) x2226 k3246) x3154 = some r := h
      unfold F30_l1_b at h
      refine sq ?_
      obtain⟨g3248,h⟩:=gS h
      refine nR K (pu 3 (an g3248 (tn 3))) ?_
      refine cnd h ?_ ?_<;>intro h
      ·refine VW.skip ?_
       refine VW.join (fun s => s = ⟨[(0, Vv (.sl Y49) a0), (1, Vv (.sl (.sl (.sl (.int .i64)))) a1), (5, I x2226), (6, I x3154)], []⟩ ∧ F30_j2 N (F30_l1 N a0 a1 (F30_l2 N a0 a1 k2782) x2226 k3246) x3154 = some r) ?_ ?_
       ·refine VW.block <| sq <| sq ?_
        obtain⟨g3297,h⟩:=gS h
        obtain⟨g3298,h⟩:=gS h
        obtain⟨g3299,h⟩:=gS h
        refine dr K [] [] [] [0, 1, 5, 6, 52] [] (pu 2 (an g3297 (pu 2 (an g3298 (pu 4 (an g3299 (tn 3))))))) trivial ?_
        refine cnd h ?_ ?_<;>intro h
        ·refine nR K (tn 1) ?_
         cases h; exact VW.ret (rt [])
        refine VW.skip <| nR K (tn 1) <| VW.block <| lop (fun k s => ∃ x3312, s = ⟨[(0, Vv (.sl Y49) a0), (1, Vv (.sl (.sl (.sl (.int .i64)))) a1), (5, I x2226), (6, I x3154), (7, I x3312)], []⟩ ∧ F30_l0 N a1 (F30_l1 N a0 a1 (F30_l2 N a0 a1 k2782) x2226 k3246) x2226 x3154 k x3312 = some r) N [.ren [0, 1, 5, 6, 7] []] ⟨(0 : Int), rfl, h⟩ ?_
        rintro k3325 s ⟨x3312, rfl, h⟩
        cases k3325 with
        | zero => cases show none = some r from h
        | succ k3325 =>
         replace h : F30_l0_b N a1 (F30_l1 N a0 a1 (F30_l2 N a0 a1 k2782) x2226 k3246) x2226 x3154 (F30_l0 N a1 (F30_l1 N a0 a1 (F30_l2 N a0 a1 k2782) x2226 k3246) x2226 x3154 k3325) x3312 = some r := h
         unfold F30_l0_b at h
         refine sq ?_
         obtain⟨g3328,h⟩:=gS h
         obtain⟨g3329,h⟩:=gS h
         refine nR K (pu 3 (an g3328 (pu 2 (an g3329 (tn 3))))) ?_
         refine cnd h ?_ ?_<;>intro h
         ·refine VW.skip <| sq <| VW.block <| sq <| VW.region ?_
          obtain⟨g3334,h⟩:=gS h
          obtain⟨g3335,h⟩:=gS h
          obtain⟨g3336,h⟩:=gS h
          refine nG K 10 (pu 2 (an g3334 (pu 2 (an g3335 (pu 2 (an g3336 (tn 1))))))) ?_
          obtain⟨y3337,hy,h⟩:=aS h
          refine clc false [.t (.int .i64)] [] (some 75) K (ok47 N _ hy) <| nN K (tn 1) ?_
          refine cnd h ?_ ?_<;>intro h
          ·refine nR K (tn 1) ?_
           cases h; exact VW.ret (rt [])
          refine VW.skip <| nE K (tn 3) ?_
          exact aro [.ren [0, 1, 5, 6, 7] []] ⟨(wr (x3312 + (1 : Int))), rfl, h⟩
         refine VW.exit ?_
         exact arv [.ren [0, 1, 5, 6] []] ⟨rfl, h⟩
       rintro s ⟨rfl, h⟩
       unfold F30_j2 at h
       refine nE K (tn 3) ?_
       exact aro [.ren [0, 1, 5, 6] []] ⟨(wr (x3154 + (1 : Int))), rfl, h⟩
      refine VW.exit ?_
      exact arv [.ren [0, 1, 5] []] ⟨rfl, h⟩
    rintro s ⟨rfl, h⟩
    unfold F30_j1 at h
    refine nE K (tn 3) ?_
    exact aro [.ren [0, 1, 5] []] ⟨(wr (x2226 + (1 : Int))), rfl, h⟩
   refine VW.exit ?_
   exact arv [.ren [] []] ⟨rfl, h⟩
 rintro s ⟨rfl, h⟩
 unfold F30_j0 at h
 refine nR K (tn 1) ?_
 cases h; exact VW.ret (rt [])
def F82_j0 (N : Nat) (x6 : Bool) : Option (Int) :=
  cond x6 (some (1 : Int)) (some (-1 : Int))
def F82_j1 (N : Nat) (a0 : Int) (x5 : Bool) : Option (Int) :=
  cond x5 (some (2 : Int)) (cond (a0 == (1 : Int)) (F82_j0 N (a0 == (1 : Int))) (cond (a0 == (2 : Int)) (F82_j0 N (a0 == (2 : Int))) (cond (a0 == (5 : Int)) (F82_j0 N (a0 == (5 : Int))) (cond (a0 == (6 : Int)) (F82_j0 N (a0 == (6 : Int))) (F82_j0 N (a0 == (7 : Int)))))))
def F82 (N : Nat) (a0 : Int) : Option (Int) :=
  cond (a0 == (0 : Int)) (some (0 : Int)) (cond (a0 == (3 : Int)) (F82_j1 N a0 (a0 == (3 : Int))) (F82_j1 N a0 (a0 == (4 : Int))))
theorem ok82 N a0 {r} (h : F82 N a0 = some r) : Con prog 82 [I a0] [.lf (.v (.int .i64) r)] := by
 refine ctr [.lf (.v (.int .i64))] K func82 rfl fun w0 E0 ht => ?_
 unfold F82 at h
 show VW _ _ _ _ _ (retQ _ _ _ _) _
 refine nR K (tn 1) <| sq <| nR K (tn 1) <| VW.block <| nR K (tn 2) ?_
 refine cnd h ?_ ?_<;>intro h
 ·refine nR K (tn 1) ?_
  cases h; exact VW.ret (rt [])
 refine VW.join (fun s => ∃ x5, s = ⟨[(3, I a0), (6, B x5)], []⟩ ∧ F82_j1 N a0 x5 = some r) ?_ ?_
 ·refine nR K (tn 2) ?_
  refine cnd h ?_ ?_<;>intro h
  ·refine VW.skip ?_
   exact arv [.ren [3, 6] []] ⟨(a0 == (3 : Int)), rfl, h⟩
  refine nE K (tn 2) ?_
  exact arv [.ren [3, 6] []] ⟨(a0 == (4 : Int)), rfl, h⟩
 rintro s ⟨x5, rfl, h⟩
 unfold F82_j1 at h
 refine cnd h ?_ ?_<;>intro h
 ·refine nR K (tn 1) ?_
  cases h; exact VW.ret (rt [])
 refine VW.join (fun s => ∃ x6, s = ⟨[(9, B x6)], []⟩ ∧ F82_j0 N x6 = some r) ?_ ?_
 ·refine nR K (tn 2) ?_
  refine cnd h ?_ ?_<;>intro h
  ·refine VW.skip ?_
   exact arv [.ren [9] []] ⟨(a0 == (1 : Int)), rfl, h⟩
  refine nR K (tn 2) ?_
  refine cnd h ?_ ?_<;>intro h
  ·refine VW.skip ?_
   exact arv [.ren [9] []] ⟨(a0 == (2 : Int)), rfl, h⟩
  refine nR K (tn 2) ?_
  refine cnd h ?_ ?_<;>intro h
  ·refine VW.skip ?_
   exact arv [.ren [9] []] ⟨(a0 == (5 : Int)), rfl, h⟩
  refine nR K (tn 2) ?_
  refine cnd h ?_ ?_<;>intro h
  ·refine VW.skip ?_
   exact arv [.ren [9] []] ⟨(a0 == (6 : Int)), rfl, h⟩
  refine nE K (tn 2) ?_
  exact arv [.ren [9] []] ⟨(a0 == (7 : Int)), rfl, h⟩
 rintro s ⟨x6, rfl, h⟩
 unfold F82_j0 at h
 refine cnd h ?_ ?_<;>intro h
 ·refine nR K (tn 1) ?_
  cases h; exact VW.ret (rt [])
 refine VW.skip <| nR K (tn 1) ?_
 cases h; exact VW.ret (rt [])
def F83_j0 (N : Nat) (x33 : Int) (x34 : Int) : Option (Int × Int) :=
  some (x33, (IntKind.i64.wrap (x34 + (1 : Int))))
def F83_j1 (N : Nat) (nx58 : Int → Int → Int → Option (Int × Int)) (x48 : Int) (x64 : Int) (x65 : Int) : Option (Int × Int) :=
  nx58 x64 x65 (IntKind.i64.wrap (x48 + (1 : Int)))
def F83_l0_b (N : Nat) (a0 : (List Z52)) (a1 : Int) (a2 : Int) (self : (List Z52) → Int → Int → Option (Int × Int)) (nx58 : Int → Int → Int → Option (Int × Int)) (x46 : Int) (x47 : Int) (x48 : Int) : Option (Int × Int) :=
  gd (InR a1 a0.length) (andO (F82 N ((a0.getD a1.toNat (Ty.dflt Y52)).1)) fun y62 => cond (decide (x48 < y62)) (andO (self a0 x46 (IntKind.i64.wrap (a2 - (1 : Int)))) fun y67 => cond (decide (y67.1 < (0 : Int))) (some ((-1 : Int), (0 : Int))) (cond (decide (y67.2 > x47)) (F83_j1 N nx58 x48 y67.1 y67.2) (F83_j1 N nx58 x48 y67.1 x47))) (F83_j0 N x46 x47))
def F83_l0 (N : Nat) (a0 : (List Z52)) (a1 : Int) (a2 : Int) (self : (List Z52) → Int → Int → Option (Int × Int)) := loopF (F83_l0_b N a0 a1 a2 self) (fun _ _ _ => none)
theorem F83_l0_s N a0 a1 a2 (self : (List Z52) → Int → Int → Option (Int × Int)) {k} (hk : 0 < k) x46 x47 x48 : F83_l0 N a0 a1 a2 self k x46 x47 x48 = F83_l0_b N a0 a1 a2 self (F83_l0 N a0 a1 a2 self (k - 1)) x46 x47 x48 := by cases k;cases hk;rfl
def F83_b (N : Nat) (self : (List Z52) → Int → Int → Option (Int × Int)) (a0 : (List Z52)) (a1 : Int) (a2 : Int) : Option (Int × Int) :=
  cond (decide (a1 ≥ (a0.length : Int))) (some ((-1 : Int), (0 : Int))) (cond (a2 == (0 : Int)) (some ((-1 : Int), (0 : Int))) (F83_l0 N a0 a1 a2 self N (IntKind.i64.wrap (a1 + (1 : Int))) (0 : Int) (0 : Int)))
theorem ok83_b (N : Nat) (self : (List Z52) → Int → Int → Option (Int × Int)) (ih : ∀ (a0 : (List Z52)) (a1 : Int) (a2 : Int) (r : Int × Int), self a0 a1 a2 = some r → Con prog 83 [Vv (.sl Y52) a0, I a1, I a2] [.lf (.v (.int .i64) r.1), .lf (.v (.int .i64) r.2)]) (a0 : (List Z52)) (a1 : Int) (a2 : Int) {r : Int × Int} (h : F83_b N self a0 a1 a2 = some r) : Con prog 83 [Vv (.sl Y52) a0, I a1, I a2] [.lf (.v (.int .i64) r.1), .lf (.v (.int .i64) r.2)] := by
 refine ctr [.lf (.v (.int .i64)), .lf (.v (.int .i64))] K func83 rfl fun w0 E0 ht => ?_
 unfold F83_b at h
 show VW _ _ _ _ _ (retQ _ _ _ _) _
 refine nR K (tn 2) <| sq <| sq <| VW.region <| nG K 5 (tn 5) ?_
 refine spC 17 h ?_ ?_<;>intro h
 ·refine nN K (tn 3) ?_
  refine VW.cond (b := true) (by kernel_rfl) (fun _ => ?_) (fun h' => nomatch h')
  refine nR K (tn 2) ?_
  cases h; exact VW.ret (rt [])
 refine nN K (tn 3) ?_
 refine cnd h ?_ ?_<;>intro h
 ·refine nR K (tn 2) ?_
  cases h; exact VW.ret (rt [])
 refine VW.skip <| nR K (tn 3) <| nR K (tn 1) ?_
 refine VW.join (fun s => ∃ x33 x34, s = ⟨[(8, I x33), (9, I x34)], []⟩ ∧ F83_j0 N x33 x34 = some r) ?_ ?_
 ·refine nR K (tn 1) <| VW.block <| lop (fun k s => ∃ x46 x47 x48, s = ⟨[(0, Vv (.sl Y52) a0), (1, I a1), (2, I a2), (8, I x46), (9, I x47), (10, I x48)], []⟩ ∧ F83_l0 N a0 a1 a2 self k x46 x47 x48 = some r) N [.ren [0, 1, 2, 8, 9, 10] []] ⟨(wr (a1 + (1 : Int))), (0 : Int), (0 : Int), rfl, h⟩ ?_
  rintro k58 s ⟨x46, x47, x48, rfl, h⟩
  cases k58 with
  | zero => cases show none = some r from h
  | succ k58 =>
   replace h : F83_l0_b N a0 a1 a2 self (F83_l0 N a0 a1 a2 self k58) x46 x47 x48 = some r := h
   unfold F83_l0_b at h
   refine sq <| sq <| VW.region ?_
   obtain⟨g61,h⟩:=gS h
   refine nG K 6 (pu 3 (an g61 (tn 2))) ?_
   obtain⟨y62,hy,h⟩:=aS h
   refine clc false [.t (.int .i64)] [] (some 29) K (ok82 N _ hy) <| nN K (tn 1) ?_
   refine cnd h ?_ ?_<;>intro h
   ·refine VW.skip ?_
    refine VW.join (fun s => ∃ x64 x65, s = ⟨[(0, Vv (.sl Y52) a0), (1, I a1), (2, I a2), (8, I x64), (9, I x65), (10, I x48)], []⟩ ∧ F83_j1 N (F83_l0 N a0 a1 a2 self k58) x48 x64 x65 = some r) ?_ ?_
    ·refine VW.block <| sq <| VW.region <| nG K 4 (tn 4) ?_
     obtain⟨y67,hy,h⟩:=aS h
     refine clc false [.t (.sl Y52), .t (.int .i64), .t (.int .i64)] [] (some 38) K (ih _ _ _ _ hy) <| nN K (tn 5) <| sq <| nR K (tn 2) ?_
     refine cnd h ?_ ?_<;>intro h
     ·refine nR K (tn 2) ?_
      cases h; exact VW.ret (rt [])
     refine VW.skip <| nR K (tn 2) <| nR K (tn 3) ?_
     refine cnd h ?_ ?_<;>intro h
     ·refine nE K (tn 2) ?_
      exact arv [.ren [0, 1, 2, 8, 9, 10] []] ⟨y67.1, y67.2, rfl, h⟩
     refine VW.skip ?_
     exact arv [.ren [0, 1, 2, 8, 9, 10] []] ⟨y67.1, x47, rfl, h⟩
    rintro s ⟨x64, x65, rfl, h⟩
    unfold F83_j1 at h
    refine nE K (tn 3) ?_
    exact aro [.ren [0, 1, 2, 8, 9, 10] []] ⟨x64, x65, (wr (x48 + (1 : Int))), rfl, h⟩
   refine VW.exit ?_
   exact arv [.ren [8, 9] []] ⟨x46, x47, rfl, h⟩
 rintro s ⟨x33, x34, rfl, h⟩
 unfold F83_j0 at h
 refine nR K (tn 5) ?_
 cases h; exact VW.ret (rt [])
def F83_r (N : Nat) := loopF (F83_b N) (fun _ _ _ => none)
theorem F83_s N {k} (hk : 0 < k) a0 a1 a2 : F83_r N k a0 a1 a2 = F83_b N (F83_r N (k - 1)) a0 a1 a2 := by cases k;cases hk;rfl
def F83 (N : Nat) : (List Z52) → Int → Int → Option (Int × Int) := F83_r N N
theorem ok83_k (N : Nat) : ∀ (k : Nat) (a0 : (List Z52)) (a1 : Int) (a2 : Int) (r : Int × Int), loopF (F83_b N) (fun _ _ _ => none) k a0 a1 a2 = some r → Con prog 83 [Vv (.sl Y52) a0, I a1, I a2] [.lf (.v (.int .i64) r.1), .lf (.v (.int .i64) r.2)]
 | 0, a0, a1, a2, r, h => nomatch (show (none : Option (Int × Int)) = some r from h)
 | k + 1, a0, a1, a2, r, h => ok83_b N _ (ok83_k N k) a0 a1 a2 h
theorem ok83 N a0 a1 a2 {r} (h : F83 N a0 a1 a2 = some r) : Con prog 83 [Vv (.sl Y52) a0, I a1, I a2] [.lf (.v (.int .i64) r.1), .lf (.v (.int .i64) r.2)] := ok83_k N N a0 a1 a2 r h
def F109 (N : Nat) (a0 : Int) : Option (Bool) :=
  andO (F77 N a0 (0 : Int) (63 : Int)) fun y1 => some y1
theorem ok109 N a0 {r} (h : F109 N a0 = some r) : Con prog 109 [I a0] [.lf (.v .bool r)] := by
 refine ctr [.lf (.v .bool)] K func109 rfl fun w0 E0 ht => ?_
 unfold F109 at h
 show VW _ _ _ _ _ (retQ _ _ _ _) _
 refine nR K (tn 1) <| sq <| VW.region <| nG K 1 (tn 1) ?_
 obtain⟨y1,hy,h⟩:=aS h
 refine clc false [.t (.int .i64), .t (.int .i64), .t (.int .i64)] [] (some 4) K (ok77 N _ _ _ hy) <| nN K (tn 1) ?_
 cases h; exact VW.ret (rt [])
def F102_j0 (N : Nat) : Option (Bool) :=
  some false
def F102_j1 (N : Nat) (x11 : Int) (x13 : Int) (x14 : Bool) (x15 : (List Int)) : Option (Bool) :=
  andO (F77 N (x15.length : Int) (1 : Int) (6 : Int)) fun y75 => cond y75 (cond (x11 == (0 : Int)) (cond (x13 == (0 : Int)) (some (!x14)) (some false)) (some false)) (some false)
def F102_l0_b (N : Nat) (x11 : Int) (x13 : Int) (x14 : Bool) (x15 : (List Int)) (nx86 : Int → Option (Bool)) (x81 : Int) : Option (Bool) :=
  cond (decide (x81 < (x15.length : Int))) (gd (InR x81 x15.length) (andO (F109 N (x15.getD x81.toNat (Ty.dflt (.int .i64)))) fun y90 => cond (!y90) (some false) (nx86 (IntKind.i64.wrap (x81 + (1 : Int)))))) (F102_j1 N x11 x13 x14 x15)
def F102_l0 (N : Nat) (x11 : Int) (x13 : Int) (x14 : Bool) (x15 : (List Int)) := loopF (F102_l0_b N x11 x13 x14 x15) (fun _ => none)
theorem F102_l0_s N x11 x13 x14 x15 {k} (hk : 0 < k) x81 : F102_l0 N x11 x13 x14 x15 k x81 = F102_l0_b N x11 x13 x14 x15 (F102_l0 N x11 x13 x14 x15 (k - 1)) x81 := by cases k;cases hk;rfl
def F102_j2 (N : Nat) (x11 : Int) (x13 : Int) (x14 : Bool) (x95 : Bool) : Option (Bool) :=
  cond x95 (cond (x11 == (0 : Int)) (cond (x13 == (0 : Int)) (some (!x14)) (some false)) (some false)) (F102_j0 N)
def F102_j3 (N : Nat) (x9 : Int) (x10 : ByteArray) (x11 : Int) (x12 : Int) (x13 : Int) (x14 : Bool) (x15 : (List Int)) : Option (Bool) :=
  cond (x9 == (0 : Int)) (andO (F76 N x10) fun y57 => cond y57 (cond (x11 == (0 : Int)) (cond (x13 == (0 : Int)) (some (!x14)) (some false)) (some false)) (some false)) (cond (x9 == (1 : Int)) (andO (F109 N x11) fun y58 => cond y58 (andO (F77 N x12 (0 : Int) (3 : Int)) fun y59 => cond y59 (andO (F79 N x13) fun y60 => cond y60 (cond (x12 != (3 : Int)) (some true) (cond (x13 == (0 : Int)) (some (!x14)) (some false))) (some false)) (some false)) (some false)) (cond (x9 == (2 : Int)) (F102_l0 N x11 x13 x14 x15 N (0 : Int)) (cond (x9 == (3 : Int)) (andO (F109 N x11) fun y91 => cond y91 (andO (F109 N x13) fun y92 => cond y92 (some (!x14)) (some false)) (some false)) (cond (x9 == (5 : Int)) (andO (F109 N x11) fun y93 => cond y93 (cond (x13 == (0 : Int)) (some (!x14)) (some false)) (some false)) (cond (x9 == (6 : Int)) (cond (x11 == (0 : Int)) (andO (F77 N x13 (0 : Int) (1000000 : Int)) fun y94 => some y94) (some false)) (cond (x9 == (4 : Int)) (F102_j2 N x11 x13 x14 (x9 == (4 : Int))) (F102_j2 N x11 x13 x14 (x9 == (7 : Int)))))))))
def F102 (N : Nat) (a0 : Z52) : Option (Bool) :=
  cond (a0.1 != (0 : Int)) (cond (!(a0.2.1.toList == ByteArray.empty.toList)) (some false) (cond (a0.1 != (2 : Int)) (cond (decide ((a0.2.2.2.2.2.2.length : Int) > (0 : Int))) (some false) (cond (a0.1 != (1 : Int)) (cond (a0.2.2.2.1 != (0 : Int)) (some false) (cond a0.2.2.2.2.2.1 (andO (F77 N a0.2.2.2.2.1 (0 : Int) (39 : Int)) fun y98 => cond (!y98) (some false) (F102_j3 N a0.1 a0.2.1 a0.2.2.1 a0.2.2.2.1 a0.2.2.2.2.1 a0.2.2.2.2.2.1 a0.2.2.2.2.2.2)) (F102_j3 N a0.1 a0.2.1 a0.2.2.1 a0.2.2.2.1 a0.2.2.2.2.1 a0.2.2.2.2.2.1 a0.2.2.2.2.2.2))) (cond a0.2.2.2.2.2.1 (andO (F77 N a0.2.2.2.2.1 (0 : Int) (39 : Int)) fun y99 => cond (!y99) (some false) (F102_j3 N a0.1 a0.2.1 a0.2.2.1 a0.2.2.2.1 a0.2.2.2.2.1 a0.2.2.2.2.2.1 a0.2.2.2.2.2.2)) (F102_j3 N a0.1 a0.2.1 a0.2.2.1 a0.2.2.2.1 a0.2.2.2.2.1 a0.2.2.2.2.2.1 a0.2.2.2.2.2.2)))) (cond (a0.1 != (1 : Int)) (cond (a0.2.2.2.1 != (0 : Int)) (some false) (cond a0.2.2.2.2.2.1 (andO (F77 N a0.2.2.2.2.1 (0 : Int) (39 : Int)) fun y100 => cond (!y100) (some false) (F102_j3 N a0.1 a0.2.1 a0.2.2.1 a0.2.2.2.1 a0.2.2.2.2.1 a0.2.2.2.2.2.1 a0.2.2.2.2.2.2)) (F102_j3 N a0.1 a0.2.1 a0.2.2.1 a0.2.2.2.1 a0.2.2.2.2.1 a0.2.2.2.2.2.1 a0.2.2.2.2.2.2))) (cond a0.2.2.2.2.2.1 (andO (F77 N a0.2.2.2.2.1 (0 : Int) (39 : Int)) fun y101 => cond (!y101) (some false) (F102_j3 N a0.1 a0.2.1 a0.2.2.1 a0.2.2.2.1 a0.2.2.2.2.1 a0.2.2.2.2.2.1 a0.2.2.2.2.2.2)) (F102_j3 N a0.1 a0.2.1 a0.2.2.1 a0.2.2.2.1 a0.2.2.2.2.1 a0.2.2.2.2.2.1 a0.2.2.2.2.2.2))))) (cond (a0.1 != (2 : Int)) (cond (decide ((a0.2.2.2.2.2.2.length : Int) > (0 : Int))) (some false) (cond (a0.1 != (1 : Int)) (cond (a0.2.2.2.1 != (0 : Int)) (some false) (cond a0.2.2.2.2.2.1 (andO (F77 N a0.2.2.2.2.1 (0 : Int) (39 : Int)) fun y102 => cond (!y102) (some false) (F102_j3 N a0.1 a0.2.1 a0.2.2.1 a0.2.2.2.1 a0.2.2.2.2.1 a0.2.2.2.2.2.1 a0.2.2.2.2.2.2)) (F102_j3 N a0.1 a0.2.1 a0.2.2.1 a0.2.2.2.1 a0.2.2.2.2.1 a0.2.2.2.2.2.1 a0.2.2.2.2.2.2))) (cond a0.2.2.2.2.2.1 (andO (F77 N a0.2.2.2.2.1 (0 : Int) (39 : Int)) fun y103 => cond (!y103) (some false) (F102_j3 N a0.1 a0.2.1 a0.2.2.1 a0.2.2.2.1 a0.2.2.2.2.1 a0.2.2.2.2.2.1 a0.2.2.2.2.2.2)) (F102_j3 N a0.1 a0.2.1 a0.2.2.1 a0.2.2.2.1 a0.2.2.2.2.1 a0.2.2.2.2.2.1 a0.2.2.2.2.2.2)))) (cond (a0.1 != (1 : Int)) (cond (a0.2.2.2.1 != (0 : Int)) (some false) (cond a0.2.2.2.2.2.1 (andO (F77 N a0.2.2.2.2.1 (0 : Int) (39 : Int)) fun y104 => cond (!y104) (some false) (F102_j3 N a0.1 a0.2.1 a0.2.2.1 a0.2.2.2.1 a0.2.2.2.2.1 a0.2.2.2.2.2.1 a0.2.2.2.2.2.2)) (F102_j3 N a0.1 a0.2.1 a0.2.2.1 a0.2.2.2.1 a0.2.2.2.2.1 a0.2.2.2.2.2.1 a0.2.2.2.2.2.2))) (cond a0.2.2.2.2.2.1 (andO (F77 N a0.2.2.2.2.1 (0 : Int) (39 : Int)) fun y105 => cond (!y105) (some false) (F102_j3 N a0.1 a0.2.1 a0.2.2.1 a0.2.2.2.1 a0.2.2.2.2.1 a0.2.2.2.2.2.1 a0.2.2.2.2.2.2)) (F102_j3 N a0.1 a0.2.1 a0.2.2.1 a0.2.2.2.1 a0.2.2.2.2.1 a0.2.2.2.2.2.1 a0.2.2.2.2.2.2))))
theorem ok102 N a0 {r} (h : F102 N a0 = some r) : Con prog 102 [.agg (lv Y52 a0)] [.lf (.v .bool r)] := by
 refine ctr [.lf (.v .bool)] K func102 rfl fun w0 E0 ht => ?_
 unfold F102 at h
 show VW _ _ _ _ _ (retQ _ _ _ _) _
 refine nR K (tn 2) ?_
 refine VW.join (fun s => ∃ x9 x10 x11 x12 x13 x14 x15, s = ⟨[(1, .lf (.ptr 0 0 0 0))], [bx [zi x9, zs x10, zi x11, zi x12, zi x13, zb x14, .v (.sl (.int .i64)) x15] 56]⟩ ∧ F102_j3 N x9 x10 x11 x12 x13 x14 x15 = some r) ?_ ?_
 ·refine sq <| VW.region <| nG K 4 (tn 4) ?_
  refine spC 7 h ?_ ?_<;>intro h
  ·refine nG K 5 (tn 5) ?_
   refine spC 12 h ?_ ?_<;>intro h
   ·refine nN K (tn 30) ?_
    refine VW.cond (b := true) (by kernel_rfl) (fun _ => ?_) (fun h' => nomatch h')
    refine nR K (tn 1) ?_
    cases h; exact VW.ret (rt [])
   refine nG K 4 (tn 4) ?_
   refine spC 16 h ?_ ?_<;>intro h
   ·refine nG K 7 (tn 7) ?_
    refine spC 23 h ?_ ?_<;>intro h
    ·refine nN K (tn 19) ?_
     refine VW.cond (b := true) (by kernel_rfl) (fun _ => ?_) (fun h' => nomatch h')
     refine nR K (tn 1) ?_
     cases h; exact VW.ret (rt [])
    refine nG K 4 (tn 4) ?_
    refine spC 27 h ?_ ?_<;>intro h
    ·refine nG K 6 (tn 6) ?_
     refine spC 33 h ?_ ?_<;>intro h
     ·refine nN K (tn 9) ?_
      refine VW.cond (b := true) (by kernel_rfl) (fun _ => ?_) (fun h' => nomatch h')
      refine nR K (tn 1) ?_
      cases h; exact VW.ret (rt [])
     refine nG K 3 (tn 3) ?_
     refine spC 36 h ?_ ?_<;>intro h
     ·refine nG K 2 (tn 2) <| VO.on (j := 32) (want := true) (d := 36) (b := true) rfl rfl rfl (by kernel_rfl) rfl ?_
      obtain⟨y98,hy,h⟩:=aS h
      refine clc false [.t (.int .i64), .t (.int .i64), .t (.int .i64)] [] (some 39) K (ok77 N _ _ _ hy) <| nN K (tn 3) ?_
      refine cnd h ?_ ?_<;>intro h
      ·refine nR K (tn 1) ?_
       cases h; exact VW.ret (rt [])
      refine VW.skip ?_
      exact arv [.ren [1] [0]] ⟨a0.1, a0.2.1, a0.2.2.1, a0.2.2.2.1, a0.2.2.2.2.1, a0.2.2.2.2.2.1, a0.2.2.2.2.2.2, rfl, h⟩
     refine nN K (tn 6) ?_
     refine VW.cond (b := false) (by kernel_rfl) (fun h' => nomatch h') (fun _ => ?_)
     refine VW.skip ?_
     exact arv [.ren [1] [0]] ⟨a0.1, a0.2.1, a0.2.2.1, a0.2.2.2.1, a0.2.2.2.2.1, a0.2.2.2.2.2.1, a0.2.2.2.2.2.2, rfl, h⟩
    refine nG K 9 (tn 9) ?_
    refine spC 36 h ?_ ?_<;>intro h
    ·refine nG K 2 (tn 2) <| VO.on (j := 32) (want := true) (d := 36) (b := true) rfl rfl rfl (by kernel_rfl) rfl ?_
     obtain⟨y99,hy,h⟩:=aS h
     refine clc false [.t (.int .i64), .t (.int .i64), .t (.int .i64)] [] (some 39) K (ok77 N _ _ _ hy) <| nN K (tn 3) ?_
     refine cnd h ?_ ?_<;>intro h
     ·refine nR K (tn 1) ?_
      cases h; exact VW.ret (rt [])
     refine VW.skip ?_
     exact arv [.ren [1] [0]] ⟨a0.1, a0.2.1, a0.2.2.1, a0.2.2.2.1, a0.2.2.2.2.1, a0.2.2.2.2.2.1, a0.2.2.2.2.2.2, rfl, h⟩
    refine nN K (tn 6) ?_
    refine VW.cond (b := false) (by kernel_rfl) (fun h' => nomatch h') (fun _ => ?_)
    refine VW.skip ?_
    exact arv [.ren [1] [0]] ⟨a0.1, a0.2.1, a0.2.2.1, a0.2.2.2.1, a0.2.2.2.2.1, a0.2.2.2.2.2.1, a0.2.2.2.2.2.2, rfl, h⟩
   refine nG K 11 (tn 11) ?_
   refine spC 27 h ?_ ?_<;>intro h
   ·refine nG K 6 (tn 6) ?_
    refine spC 33 h ?_ ?_<;>intro h
    ·refine nN K (tn 9) ?_
     refine VW.cond (b := true) (by kernel_rfl) (fun _ => ?_) (fun h' => nomatch h')
     refine nR K (tn 1) ?_
     cases h; exact VW.ret (rt [])
    refine nG K 3 (tn 3) ?_
    refine spC 36 h ?_ ?_<;>intro h
    ·refine nG K 2 (tn 2) <| VO.on (j := 32) (want := true) (d := 36) (b := true) rfl rfl rfl (by kernel_rfl) rfl ?_
     obtain⟨y100,hy,h⟩:=aS h
     refine clc false [.t (.int .i64), .t (.int .i64), .t (.int .i64)] [] (some 39) K (ok77 N _ _ _ hy) <| nN K (tn 3) ?_
     refine cnd h ?_ ?_<;>intro h
     ·refine nR K (tn 1) ?_
      cases h; exact VW.ret (rt [])
     refine VW.skip ?_
     exact arv [.ren [1] [0]] ⟨a0.1, a0.2.1, a0.2.2.1, a0.2.2.2.1, a0.2.2.2.2.1, a0.2.2.2.2.2.1, a0.2.2.2.2.2.2, rfl, h⟩
    refine nN K (tn 6) ?_
    refine VW.cond (b := false) (by kernel_rfl) (fun h' => nomatch h') (fun _ => ?_)
    refine VW.skip ?_
    exact arv [.ren [1] [0]] ⟨a0.1, a0.2.1, a0.2.2.1, a0.2.2.2.1, a0.2.2.2.2.1, a0.2.2.2.2.2.1, a0.2.2.2.2.2.2, rfl, h⟩
   refine nG K 9 (tn 9) ?_
   refine spC 36 h ?_ ?_<;>intro h
   ·refine nG K 2 (tn 2) <| VO.on (j := 32) (want := true) (d := 36) (b := true) rfl rfl rfl (by kernel_rfl) rfl ?_
    obtain⟨y101,hy,h⟩:=aS h
    refine clc false [.t (.int .i64), .t (.int .i64), .t (.int .i64)] [] (some 39) K (ok77 N _ _ _ hy) <| nN K (tn 3) ?_
    refine cnd h ?_ ?_<;>intro h
    ·refine nR K (tn 1) ?_
     cases h; exact VW.ret (rt [])
    refine VW.skip ?_
    exact arv [.ren [1] [0]] ⟨a0.1, a0.2.1, a0.2.2.1, a0.2.2.2.1, a0.2.2.2.2.1, a0.2.2.2.2.2.1, a0.2.2.2.2.2.2, rfl, h⟩
   refine nN K (tn 6) ?_
   refine VW.cond (b := false) (by kernel_rfl) (fun h' => nomatch h') (fun _ => ?_)
   refine VW.skip ?_
   exact arv [.ren [1] [0]] ⟨a0.1, a0.2.1, a0.2.2.1, a0.2.2.2.1, a0.2.2.2.2.1, a0.2.2.2.2.2.1, a0.2.2.2.2.2.2, rfl, h⟩
  refine nG K 9 (tn 9) ?_
  refine spC 16 h ?_ ?_<;>intro h
  ·refine nG K 7 (tn 7) ?_
   refine spC 23 h ?_ ?_<;>intro h
   ·refine nN K (tn 19) ?_
    refine VW.cond (b := true) (by kernel_rfl) (fun _ => ?_) (fun h' => nomatch h')
    refine nR K (tn 1) ?_
    cases h; exact VW.ret (rt [])
   refine nG K 4 (tn 4) ?_
   refine spC 27 h ?_ ?_<;>intro h
   ·refine nG K 6 (tn 6) ?_
    refine spC 33 h ?_ ?_<;>intro h
    ·refine nN K (tn 9) ?_
     refine VW.cond (b := true) (by kernel_rfl) (fun _ => ?_) (fun h' => nomatch h')
     refine nR K (tn 1) ?_
     cases h; exact VW.ret (rt [])
    refine nG K 3 (tn 3) ?_
    refine spC 36 h ?_ ?_<;>intro h
    ·refine nG K 2 (tn 2) <| VO.on (j := 32) (want := true) (d := 36) (b := true) rfl rfl rfl (by kernel_rfl) rfl ?_
     obtain⟨y102,hy,h⟩:=aS h
     refine clc false [.t (.int .i64), .t (.int .i64), .t (.int .i64)] [] (some 39) K (ok77 N _ _ _ hy) <| nN K (tn 3) ?_
     refine cnd h ?_ ?_<;>intro h
     ·refine nR K (tn 1) ?_
      cases h; exact VW.ret (rt [])
     refine VW.skip ?_
     exact arv [.ren [1] [0]] ⟨a0.1, a0.2.1, a0.2.2.1, a0.2.2.2.1, a0.2.2.2.2.1, a0.2.2.2.2.2.1, a0.2.2.2.2.2.2, rfl, h⟩
    refine nN K (tn 6) ?_
    refine VW.cond (b := false) (by kernel_rfl) (fun h' => nomatch h') (fun _ => ?_)
    refine VW.skip ?_
    exact arv [.ren [1] [0]] ⟨a0.1, a0.2.1, a0.2.2.1, a0.2.2.2.1, a0.2.2.2.2.1, a0.2.2.2.2.2.1, a0.2.2.2.2.2.2, rfl, h⟩
   refine nG K 9 (tn 9) ?_
   refine spC 36 h ?_ ?_<;>intro h
   ·refine nG K 2 (tn 2) <| VO.on (j := 32) (want := true) (d := 36) (b := true) rfl rfl rfl (by kernel_rfl) rfl ?_
    obtain⟨y103,hy,h⟩:=aS h
    refine clc false [.t (.int .i64), .t (.int .i64), .t (.int .i64)] [] (some 39) K (ok77 N _ _ _ hy) <| nN K (tn 3) ?_
    refine cnd h ?_ ?_<;>intro h
    ·refine nR K (tn 1) ?_
     cases h; exact VW.ret (rt [])
    refine VW.skip ?_
    exact arv [.ren [1] [0]] ⟨a0.1, a0.2.1, a0.2.2.1, a0.2.2.2.1, a0.2.2.2.2.1, a0.2.2.2.2.2.1, a0.2.2.2.2.2.2, rfl, h⟩
   refine nN K (tn 6) ?_
   refine VW.cond (b := false) (by kernel_rfl) (fun h' => nomatch h') (fun _ => ?_)
   refine VW.skip ?_
   exact arv [.ren [1] [0]] ⟨a0.1, a0.2.1, a0.2.2.1, a0.2.2.2.1, a0.2.2.2.2.1, a0.2.2.2.2.2.1, a0.2.2.2.2.2.2, rfl, h⟩
  refine nG K 11 (tn 11) ?_
  refine spC 27 h ?_ ?_<;>intro h
  ·refine nG K 6 (tn 6) ?_
   refine spC 33 h ?_ ?_<;>intro h
   ·refine nN K (tn 9) ?_
    refine VW.cond (b := true) (by kernel_rfl) (fun _ => ?_) (fun h' => nomatch h')
    refine nR K (tn 1) ?_
    cases h; exact VW.ret (rt [])
   refine nG K 3 (tn 3) ?_
   refine spC 36 h ?_ ?_<;>intro h
   ·refine nG K 2 (tn 2) <| VO.on (j := 32) (want := true) (d := 36) (b := true) rfl rfl rfl (by kernel_rfl) rfl ?_
    obtain⟨y104,hy,h⟩:=aS h
    refine clc false [.t (.int .i64), .t (.int .i64), .t (.int .i64)] [] (some 39) K (ok77 N _ _ _ hy) <| nN K (tn 3) ?_
    refine cnd h ?_ ?_<;>intro h
    ·refine nR K (tn 1) ?_
     cases h; exact VW.ret (rt [])
    refine VW.skip ?_
    exact arv [.ren [1] [0]] ⟨a0.1, a0.2.1, a0.2.2.1, a0.2.2.2.1, a0.2.2.2.2.1, a0.2.2.2.2.2.1, a0.2.2.2.2.2.2, rfl, h⟩
   refine nN K (tn 6) ?_
   refine VW.cond (b := false) (by kernel_rfl) (fun h' => nomatch h') (fun _ => ?_)
   refine VW.skip ?_
   exact arv [.ren [1] [0]] ⟨a0.1, a0.2.1, a0.2.2.1, a0.2.2.2.1, a0.2.2.2.2.1, a0.2.2.2.2.2.1, a0.2.2.2.2.2.2, rfl, h⟩
  refine nG K 9 (tn 9) ?_
  refine spC 36 h ?_ ?_<;>intro h
  ·refine nG K 2 (tn 2) <| VO.on (j := 32) (want := true) (d := 36) (b := true) rfl rfl rfl (by kernel_rfl) rfl ?_
   obtain⟨y105,hy,h⟩:=aS h
   refine clc false [.t (.int .i64), .t (.int .i64), .t (.int .i64)] [] (some 39) K (ok77 N _ _ _ hy) <| nN K (tn 3) ?_
   refine cnd h ?_ ?_<;>intro h
   ·refine nR K (tn 1) ?_
    cases h; exact VW.ret (rt [])
   refine VW.skip ?_
   exact arv [.ren [1] [0]] ⟨a0.1, a0.2.1, a0.2.2.1, a0.2.2.2.1, a0.2.2.2.2.1, a0.2.2.2.2.2.1, a0.2.2.2.2.2.2, rfl, h⟩
  refine nN K (tn 6) ?_
  refine VW.cond (b := false) (by kernel_rfl) (fun h' => nomatch h') (fun _ => ?_)
  refine VW.skip ?_
  exact arv [.ren [1] [0]] ⟨a0.1, a0.2.1, a0.2.2.1, a0.2.2.2.1, a0.2.2.2.2.1, a0.2.2.2.2.2.1, a0.2.2.2.2.2.2, rfl, h⟩
 rintro s ⟨x9, x10, x11, x12, x13, x14, x15, rfl, h⟩
 unfold F102_j3 at h
 refine VW.join (fun s => s = ⟨[], []⟩ ∧ F102_j0 N = some r) ?_ ?_
 ·refine nR K (tn 2) <| VW.block <| nR K (tn 2) ?_
  refine cnd h ?_ ?_<;>intro h
  ·refine sq <| VW.region <| nG K 2 (tn 2) ?_
   obtain⟨y57,hy,h⟩:=aS h
   refine clc false [.t .str] [] (some 49) K (ok76 N _ hy) <| nG K 1 (tn 1) ?_
   refine spC 50 h ?_ ?_<;>intro h
   ·refine nG K 5 (tn 5) ?_
    refine spC 55 h ?_ ?_<;>intro h
    ·refine nG K 5 (tn 5) ?_
     refine spC 60 h ?_ ?_<;>intro h
     ·refine nN K (tn 5) ?_
      cases h; exact VW.ret (rt [])
     refine nN K (tn 5) ?_
     cases h; exact VW.ret (rt [])
    refine nN K (tn 10) ?_
    cases h; exact VW.ret (rt [])
   refine nN K (tn 15) ?_
   cases h; exact VW.ret (rt [])
  refine nR K (tn 2) ?_
  refine cnd h ?_ ?_<;>intro h
  ·refine sq <| VW.region <| nG K 2 (tn 2) ?_
   obtain⟨y58,hy,h⟩:=aS h
   refine clc false [.t (.int .i64)] [] (some 69) K (ok109 N _ hy) <| nG K 1 (tn 1) ?_
   refine spC 70 h ?_ ?_<;>intro h
   ·refine nG K 2 (tn 2) <| VO.on (j := 3) (want := true) (d := 70) (b := true) rfl rfl rfl (by kernel_rfl) rfl ?_
    obtain⟨y59,hy,h⟩:=aS h
    refine clc false [.t (.int .i64), .t (.int .i64), .t (.int .i64)] [] (some 73) K (ok77 N _ _ _ hy) <| nG K 2 (tn 2) ?_
    refine spC 75 h ?_ ?_<;>intro h
    ·refine nG K 2 (tn 2) <| VO.on (j := 8) (want := true) (d := 75) (b := true) rfl rfl rfl (by kernel_rfl) rfl ?_
     obtain⟨y60,hy,h⟩:=aS h
     refine clc false [.t (.int .i64)] [] (some 78) K (ok79 N _ hy) <| nG K 2 (tn 2) ?_
     refine spC 80 h ?_ ?_<;>intro h
     ·refine nG K 4 (tn 4) ?_
      refine spC 84 h ?_ ?_<;>intro h
      ·refine nN K (tn 11) ?_
       cases h; exact VW.ret (rt [])
      refine nG K 4 (tn 4) ?_
      refine spC 88 h ?_ ?_<;>intro h
      ·refine nN K (tn 7) ?_
       cases h; exact VW.ret (rt [])
      refine nN K (tn 7) ?_
      cases h; exact VW.ret (rt [])
     refine nN K (tn 15) ?_
     cases h; exact VW.ret (rt [])
    refine nN K (tn 20) ?_
    cases h; exact VW.ret (rt [])
   refine nN K (tn 25) ?_
   cases h; exact VW.ret (rt [])
  refine nR K (tn 2) ?_
  refine cnd h ?_ ?_<;>intro h
  ·refine VW.join (fun s => s = ⟨[(1, .lf (.ptr 0 0 0 0))], [bx [zi x9, zs x10, zi x11, zi x12, zi x13, zb x14, .v (.sl (.int .i64)) x15] 56]⟩ ∧ F102_j1 N x11 x13 x14 x15 = some r) ?_ ?_
   ·refine nR K (tn 1) <| VW.block <| lop (fun k s => ∃ x81, s = ⟨[(1, .lf (.ptr 0 0 0 0)), (3, I x81)], [bx [zi x9, zs x10, zi x11, zi x12, zi x13, zb x14, .v (.sl (.int .i64)) x15] 56]⟩ ∧ F102_l0 N x11 x13 x14 x15 k x81 = some r) N [.ren [1, 3] [0]] ⟨(0 : Int), rfl, h⟩ ?_
    rintro k86 s ⟨x81, rfl, h⟩
    cases k86 with
    | zero => cases show none = some r from h
    | succ k86 =>
     replace h : F102_l0_b N x11 x13 x14 x15 (F102_l0 N x11 x13 x14 x15 k86) x81 = some r := h
     unfold F102_l0_b at h
     refine sq <| nR K (tn 5) ?_
     refine cnd h ?_ ?_<;>intro h
     ·refine VW.skip <| sq <| VW.block <| sq <| VW.region ?_
      obtain⟨g89,h⟩:=gS h
      refine nG K 5 (pu 3 (an g89 (tn 1))) ?_
      obtain⟨y90,hy,h⟩:=aS h
      refine clc false [.t (.int .i64)] [] (some 109) K (ok109 N _ hy) <| nN K (tn 1) ?_
      refine cnd h ?_ ?_<;>intro h
      ·refine nR K (tn 1) ?_
       cases h; exact VW.ret (rt [])
      refine VW.skip <| nE K (tn 3) ?_
      exact aro [.ren [1, 3] [0]] ⟨(wr (x81 + (1 : Int))), rfl, h⟩
     refine VW.exit ?_
     exact arv [.ren [1] [0]] ⟨rfl, h⟩
   rintro s ⟨rfl, h⟩
   unfold F102_j1 at h
   refine sq <| VW.region <| nG K 3 (tn 3) ?_
   obtain⟨y75,hy,h⟩:=aS h
   refine clc false [.t (.int .i64), .t (.int .i64), .t (.int .i64)] [] (some 114) K (ok77 N _ _ _ hy) <| nG K 1 (tn 1) ?_
   refine spC 115 h ?_ ?_<;>intro h
   ·refine nG K 5 (tn 5) ?_
    refine spC 120 h ?_ ?_<;>intro h
    ·refine nG K 5 (tn 5) ?_
     refine spC 125 h ?_ ?_<;>intro h
     ·refine nN K (tn 5) ?_
      cases h; exact VW.ret (rt [])
     refine nN K (tn 5) ?_
     cases h; exact VW.ret (rt [])
    refine nN K (tn 10) ?_
    cases h; exact VW.ret (rt [])
   refine nN K (tn 15) ?_
   cases h; exact VW.ret (rt [])
  refine nR K (tn 2) ?_
  refine cnd h ?_ ?_<;>intro h
  ·refine sq <| VW.region <| nG K 2 (tn 2) ?_
   obtain⟨y91,hy,h⟩:=aS h
   refine clc false [.t (.int .i64)] [] (some 134) K (ok109 N _ hy) <| nG K 1 (tn 1) ?_
   refine spC 135 h ?_ ?_<;>intro h
   ·refine nG K 2 (tn 2) <| VO.on (j := 3) (want := true) (d := 135) (b := true) rfl rfl rfl (by kernel_rfl) rfl ?_
    obtain⟨y92,hy,h⟩:=aS h
    refine clc false [.t (.int .i64)] [] (some 138) K (ok109 N _ hy) <| nG K 2 (tn 2) ?_
    refine spC 140 h ?_ ?_<;>intro h
    ·refine nN K (tn 5) ?_
     cases h; exact VW.ret (rt [])
    refine nN K (tn 5) ?_
    cases h; exact VW.ret (rt [])
   refine nN K (tn 10) ?_
   cases h; exact VW.ret (rt [])
  refine nR K (tn 2) ?_
  refine cnd h ?_ ?_<;>intro h
  ·refine sq <| VW.region <| nG K 2 (tn 2) ?_
   obtain⟨y93,hy,h⟩:=aS h
   refine clc false [.t (.int .i64)] [] (some 149) K (ok109 N _ hy) <| nG K 1 (tn 1) ?_
   refine spC 150 h ?_ ?_<;>intro h
   ·refine nG K 5 (tn 5) ?_
    refine spC 155 h ?_ ?_<;>intro h
    ·refine nN K (tn 5) ?_
     cases h; exact VW.ret (rt [])
    refine nN K (tn 5) ?_
    cases h; exact VW.ret (rt [])
   refine nN K (tn 10) ?_
   cases h; exact VW.ret (rt [])
  refine nR K (tn 2) ?_
  refine cnd h ?_ ?_<;>intro h
  ·refine sq <| VW.region <| nG K 4 (tn 4) ?_
   refine spC 165 h ?_ ?_<;>intro h
   ·refine nG K 2 (tn 2) <| VO.on (j := 3) (want := true) (d := 165) (b := true) rfl rfl rfl (by kernel_rfl) rfl ?_
    obtain⟨y94,hy,h⟩:=aS h
    refine clc false [.t (.int .i64), .t (.int .i64), .t (.int .i64)] [] (some 168) K (ok77 N _ _ _ hy) <| nN K (tn 2) ?_
    cases h; exact VW.ret (rt [])
   refine nN K (tn 5) ?_
   cases h; exact VW.ret (rt [])
  refine VW.join (fun s => ∃ x95, s = ⟨[(1, .lf (.ptr 0 0 0 0)), (170, B x95)], [bx [zi x9, zs x10, zi x11, zi x12, zi x13, zb x14, .v (.sl (.int .i64)) x15] 56]⟩ ∧ F102_j2 N x11 x13 x14 x95 = some r) ?_ ?_
  ·refine nR K (tn 2) ?_
   refine cnd h ?_ ?_<;>intro h
   ·refine VW.skip ?_
    exact arv [.ren [1, 170] [0]] ⟨(x9 == (4 : Int)), rfl, h⟩
   refine nE K (tn 2) ?_
   exact arv [.ren [1, 170] [0]] ⟨(x9 == (7 : Int)), rfl, h⟩
  rintro s ⟨x95, rfl, h⟩
  unfold F102_j2 at h
  refine cnd h ?_ ?_<;>intro h
  ·refine sq <| VW.region <| nG K 4 (tn 4) ?_
   refine spC 176 h ?_ ?_<;>intro h
   ·refine nG K 5 (tn 5) ?_
    refine spC 181 h ?_ ?_<;>intro h
    ·refine nN K (tn 5) ?_
     cases h; exact VW.ret (rt [])
    refine nN K (tn 5) ?_
    cases h; exact VW.ret (rt [])
   refine nN K (tn 10) ?_
   cases h; exact VW.ret (rt [])
  refine VW.skip ?_
  exact arv [.ren [] []] ⟨rfl, h⟩
 rintro s ⟨rfl, h⟩
 unfold F102_j0 at h
 refine nR K (tn 1) ?_
 cases h; exact VW.ret (rt [])
def F80_j0 (N : Nat) (a0 : (List Z52)) : Option (Bool) :=
  andO (F83 N a0 (0 : Int) (10 : Int)) fun y17 => some (y17.1 == (a0.length : Int))
def F80_l0_b (N : Nat) (a0 : (List Z52)) (nx28 : Int → Option (Bool)) (x23 : Int) : Option (Bool) :=
  cond (decide (x23 < (a0.length : Int))) (gd (InR x23 a0.length) (andO (F102 N (a0.getD x23.toNat (Ty.dflt Y52))) fun y32 => cond (!y32) (some false) (nx28 (IntKind.i64.wrap (x23 + (1 : Int)))))) (F80_j0 N a0)
def F80_l0 (N : Nat) (a0 : (List Z52)) := loopF (F80_l0_b N a0) (fun _ => none)
theorem F80_l0_s N a0 {k} (hk : 0 < k) x23 : F80_l0 N a0 k x23 = F80_l0_b N a0 (F80_l0 N a0 (k - 1)) x23 := by cases k;cases hk;rfl
def F80 (N : Nat) (a0 : (List Z52)) : Option (Bool) :=
  andO (F77 N (a0.length : Int) (1 : Int) (40 : Int)) fun y2 => cond (!y2) (some false) (F80_l0 N a0 N (0 : Int))
theorem ok80 N a0 {r} (h : F80 N a0 = some r) : Con prog 80 [Vv (.sl Y52) a0] [.lf (.v .bool r)] := by
 refine ctr [.lf (.v .bool)] K func80 rfl fun w0 E0 ht => ?_
 unfold F80 at h
 show VW _ _ _ _ _ (retQ _ _ _ _) _
 refine nR K (tn 1) <| sq <| sq <| VW.region <| nG K 2 (tn 2) ?_
 obtain⟨y2,hy,h⟩:=aS h
 refine clc false [.t (.int .i64), .t (.int .i64), .t (.int .i64)] [] (some 8) K (ok77 N _ _ _ hy) <| nN K (tn 1) ?_
 refine cnd h ?_ ?_<;>intro h
 ·refine nR K (tn 1) ?_
  cases h; exact VW.ret (rt [])
 refine VW.skip ?_
 refine VW.join (fun s => s = ⟨[(0, Vv (.sl Y52) a0)], []⟩ ∧ F80_j0 N a0 = some r) ?_ ?_
 ·refine nR K (tn 1) <| VW.block <| lop (fun k s => ∃ x23, s = ⟨[(0, Vv (.sl Y52) a0), (3, I x23)], []⟩ ∧ F80_l0 N a0 k x23 = some r) N [.ren [0, 3] []] ⟨(0 : Int), rfl, h⟩ ?_
  rintro k28 s ⟨x23, rfl, h⟩
  cases k28 with
  | zero => cases show none = some r from h
  | succ k28 =>
   replace h : F80_l0_b N a0 (F80_l0 N a0 k28) x23 = some r := h
   unfold F80_l0_b at h
   refine sq <| nR K (tn 4) ?_
   refine cnd h ?_ ?_<;>intro h
   ·refine VW.skip <| sq <| VW.block <| sq <| VW.region ?_
    obtain⟨g31,h⟩:=gS h
    refine nG K 4 (pu 2 (an g31 (tn 1))) ?_
    obtain⟨y32,hy,h⟩:=aS h
    refine clc false [.t Y52] [] (some 20) K (ok102 N _ hy) <| nN K (tn 1) ?_
    refine cnd h ?_ ?_<;>intro h
    ·refine nR K (tn 1) ?_
     cases h; exact VW.ret (rt [])
    refine VW.skip <| nE K (tn 3) ?_
    exact aro [.ren [0, 3] []] ⟨(wr (x23 + (1 : Int))), rfl, h⟩
   refine VW.exit ?_
   exact arv [.ren [0] []] ⟨rfl, h⟩
 rintro s ⟨rfl, h⟩
 unfold F80_j0 at h
 refine sq <| VW.region <| nG K 1 (tn 1) ?_
 obtain⟨y17,hy,h⟩:=aS h
 refine clc false [.t (.sl Y52), .t (.int .i64), .t (.int .i64)] [] (some 24) K (ok83 N _ _ _ hy) <| nN K (tn 5) <| nR K (tn 5) ?_
 cases h; exact VW.ret (rt [])
def F49_j0 (N : Nat) (x30 : (List Int)) : Option ((List Int)) :=
  some x30
def F49_l0_b (N : Nat) (a0 : (List Z52)) (a1 : Int) (nx52 : (List Int) → Int → Int → Option ((List Int))) (x41 : (List Int)) (x42 : Int) (x43 : Int) : Option ((List Int)) :=
  gd (InR a1 a0.length) (andO (F82 N ((a0.getD a1.toNat (Ty.dflt Y52)).1)) fun y56 => cond (decide (x43 < y56)) (gd (x41.length + ([x42]).length ≤ lim (.int .i64)) (andO (F83 N a0 x42 (10 : Int)) fun y60 => nx52 (x41 ++ ([x42])) y60.1 (IntKind.i64.wrap (x43 + (1 : Int))))) (F49_j0 N x41))
def F49_l0 (N : Nat) (a0 : (List Z52)) (a1 : Int) := loopF (F49_l0_b N a0 a1) (fun _ _ _ => none)
theorem F49_l0_s N a0 a1 {k} (hk : 0 < k) x41 x42 x43 : F49_l0 N a0 a1 k x41 x42 x43 = F49_l0_b N a0 a1 (F49_l0 N a0 a1 (k - 1)) x41 x42 x43 := by cases k;cases hk;rfl
def F49 (N : Nat) (a0 : (List Z52)) (a1 : Int) : Option ((List Int)) :=
  F49_l0 N a0 a1 N ([]) (IntKind.i64.wrap (a1 + (1 : Int))) (0 : Int)
theorem ok49 N a0 a1 {r} (h : F49 N a0 a1 = some r) : Con prog 49 [Vv (.sl Y52) a0, I a1] [.lf (.own (.int .i64) r .dp)] := by
 refine ctr [.lf (.own (.int .i64) .dp)] K func49 rfl fun w0 E0 ht => ?_
 unfold F49 at h
 show VW _ _ _ _ _ (retQ _ _ _ _) _
 refine nR K (tn 1) <| nR K (tn 2) <| nR K (tn 3) ?_
 refine VW.join (fun s => ∃ x30, s = ⟨[(5, hh 0)], [ar 0 (.int .i64) x30 .dp]⟩ ∧ F49_j0 N x30 = some r) ?_ ?_
 ·refine nR K (tn 1) <| VW.block <| lop (fun k s => ∃ x41 x42 x43, s = ⟨[(0, Vv (.sl Y52) a0), (1, I a1), (5, hh 0), (6, I x42), (7, I x43)], [ar 0 (.int .i64) x41 .dp]⟩ ∧ F49_l0 N a0 a1 k x41 x42 x43 = some r) N [.nilS 5 (.int .i64) .dp, .ren [0, 1, 5, 6, 7] [0]] ⟨[], (wr (a1 + (1 : Int))), (0 : Int), rfl, h⟩ ?_
  rintro k52 s ⟨x41, x42, x43, rfl, h⟩
  cases k52 with
  | zero => cases show none = some r from h
  | succ k52 =>
   replace h : F49_l0_b N a0 a1 (F49_l0 N a0 a1 k52) x41 x42 x43 = some r := h
   unfold F49_l0_b at h
   refine sq <| sq <| VW.region ?_
   obtain⟨g55,h⟩:=gS h
   refine nG K 6 (pu 3 (an g55 (tn 2))) ?_
   obtain⟨y56,hy,h⟩:=aS h
   refine clc false [.t (.int .i64)] [] (some 17) K (ok82 N _ hy) <| nN K (tn 1) ?_
   refine cnd h ?_ ?_<;>intro h
   ·refine VW.skip <| sq <| VW.block ?_
    obtain⟨g59,h⟩:=gS h
    refine nR K (pu 3 (an g59 (tn 1))) <| VW.region <| nG K 2 (tn 2) ?_
    obtain⟨y60,hy,h⟩:=aS h
    refine clc false [.t (.sl Y52), .t (.int .i64), .t (.int .i64)] [] (some 28) K (ok83 N _ _ _ hy) <| nN K (tn 4) <| nE K (tn 3) ?_
    exact aro [.ren [0, 1, 5, 6, 7] [0]] ⟨(x41 ++ ([x42])), y60.1, (wr (x43 + (1 : Int))), rfl, h⟩
   refine VW.exit ?_
   exact arv [.ren [5] [0]] ⟨x41, rfl, h⟩
 rintro s ⟨x30, rfl, h⟩
 unfold F49_j0 at h
 refine nR K (tn 2) ?_
 cases h; exact VW.ret (rt [some 0])
def F50_j0 (N : Nat) : Option (Int) :=
  some (-1 : Int)
def F50_l0_b (N : Nat) (a0 : (List Z49)) (a1 : ByteArray) (nx15 : Int → Option (Int)) (x12 : Int) : Option (Int) :=
  cond (decide (x12 < (a0.length : Int))) (gd (InR x12 a0.length) (cond (((a0.getD x12.toNat (Ty.dflt Y49)).1).toList == a1.toList) (some x12) (nx15 (IntKind.i64.wrap (x12 + (1 : Int)))))) (F50_j0 N)
def F50_l0 (N : Nat) (a0 : (List Z49)) (a1 : ByteArray) := loopF (F50_l0_b N a0 a1) (fun _ => none)
theorem F50_l0_s N a0 a1 {k} (hk : 0 < k) x12 : F50_l0 N a0 a1 k x12 = F50_l0_b N a0 a1 (F50_l0 N a0 a1 (k - 1)) x12 := by cases k;cases hk;rfl
def F50 (N : Nat) (a0 : (List Z49)) (a1 : ByteArray) : Option (Int) :=
  F50_l0 N a0 a1 N (0 : Int)
theorem ok50 N a0 a1 {r} (h : F50 N a0 a1 = some r) : Con prog 50 [Vv (.sl Y49) a0, S a1] [.lf (.v (.int .i64) r)] := by
 refine ctr [.lf (.v (.int .i64))] K func50 rfl fun w0 E0 ht => ?_
 unfold F50 at h
 show VW _ _ _ _ _ (retQ _ _ _ _) _
 refine nR K (tn 1) ?_
 refine VW.join (fun s => s = ⟨[], []⟩ ∧ F50_j0 N = some r) ?_ ?_
 ·refine nR K (tn 1) <| VW.block <| lop (fun k s => ∃ x12, s = ⟨[(0, Vv (.sl Y49) a0), (1, S a1), (5, I x12)], []⟩ ∧ F50_l0 N a0 a1 k x12 = some r) N [.ren [0, 1, 5] []] ⟨(0 : Int), rfl, h⟩ ?_
  rintro k15 s ⟨x12, rfl, h⟩
  cases k15 with
  | zero => cases show none = some r from h
  | succ k15 =>
   replace h : F50_l0_b N a0 a1 (F50_l0 N a0 a1 k15) x12 = some r := h
   unfold F50_l0_b at h
   refine sq <| nR K (tn 4) ?_
   refine cnd h ?_ ?_<;>intro h
   ·refine VW.skip <| sq <| VW.block ?_
    obtain⟨g17,h⟩:=gS h
    refine nR K (pu 2 (an g17 (tn 4))) ?_
    refine cnd h ?_ ?_<;>intro h
    ·refine nR K (tn 2) ?_
     cases h; exact VW.ret (rt [])
    refine VW.skip <| nE K (tn 3) ?_
    exact aro [.ren [0, 1, 5] []] ⟨(wr (x12 + (1 : Int))), rfl, h⟩
   refine VW.exit ?_
   exact arv [.ren [] []] ⟨rfl, h⟩
 rintro s ⟨rfl, h⟩
 unfold F50_j0 at h
 refine nR K (tn 1) ?_
 cases h; exact VW.ret (rt [])
def F81_j0 (N : Nat) (x51 : (List Int)) : Option (Int) :=
  gd (InR (0 : Int) x51.length) (gd ((0 : Int).toNat < x51.length) (some (x51.getD ((0 : Int).toNat) (Ty.dflt (.int .i64)))))
def F81_j1 (N : Nat) (x50 : (List Int)) : Option (Int) :=
  some (x50.length : Int)
def F81_l0_b (N : Nat) (x50 : (List Int)) (x51 : (List Int)) (nx169 : Int → Option (Int)) (x162 : Int) : Option (Int) :=
  cond (decide (x162 < (x50.length : Int))) (gd (InR x162 x50.length) (gd (InR (0 : Int) x51.length) (gd ((0 : Int).toNat < x51.length) (cond (decide ((x50.getD x162.toNat (Ty.dflt (.int .i64))) ≥ (x51.getD ((0 : Int).toNat) (Ty.dflt (.int .i64))))) (some (-1 : Int)) (nx169 (IntKind.i64.wrap (x162 + (1 : Int)))))))) (F81_j1 N x50)
def F81_l0 (N : Nat) (x50 : (List Int)) (x51 : (List Int)) := loopF (F81_l0_b N x50 x51) (fun _ => none)
theorem F81_l0_s N x50 x51 {k} (hk : 0 < k) x162 : F81_l0 N x50 x51 k x162 = F81_l0_b N x50 x51 (F81_l0 N x50 x51 (k - 1)) x162 := by cases k;cases hk;rfl
def F81_j2 (N : Nat) (x44 : Int) (x46 : Int) (x48 : Int) (x50 : (List Int)) (x51 : (List Int)) (x132 : Bool) : Option (Int) :=
  cond x132 (gd (InR (0 : Int) x51.length) (gd ((0 : Int).toNat < x51.length) (cond (decide (x46 ≥ (x51.getD ((0 : Int).toNat) (Ty.dflt (.int .i64))))) (some (-1 : Int)) (F81_j0 N x51)))) (cond (x44 == (2 : Int)) (F81_l0 N x50 x51 N (0 : Int)) (cond (x44 == (3 : Int)) (gd (InR (0 : Int) x51.length) (gd ((0 : Int).toNat < x51.length) (cond (decide (x46 ≥ (x51.getD ((0 : Int).toNat) (Ty.dflt (.int .i64))))) (some (-1 : Int)) (gd (InR (1 : Int) x51.length) (gd ((1 : Int).toNat < x51.length) (cond (decide (x48 ≥ (x51.getD ((1 : Int).toNat) (Ty.dflt (.int .i64))))) (some (-1 : Int)) (gd (InR (0 : Int) x51.length) (gd ((0 : Int).toNat < x51.length) (gd (InR (1 : Int) x51.length) (gd ((1 : Int).toNat < x51.length) (cond (decide ((IntKind.i64.wrap ((x51.getD ((0 : Int).toNat) (Ty.dflt (.int .i64))) + (x51.getD ((1 : Int).toNat) (Ty.dflt (.int .i64))))) > (64 : Int))) (some (-1 : Int)) (gd (InR (0 : Int) x51.length) (gd ((0 : Int).toNat < x51.length) (gd (InR (1 : Int) x51.length) (gd ((1 : Int).toNat < x51.length) (some (IntKind.i64.wrap ((x51.getD ((0 : Int).toNat) (Ty.dflt (.int .i64))) + (x51.getD ((1 : Int).toNat) (Ty.dflt (.int .i64))))))))))))))))))))) (cond (x44 == (4 : Int)) (gd (InR (0 : Int) x51.length) (gd ((0 : Int).toNat < x51.length) (gd (InR (1 : Int) x51.length) (gd ((1 : Int).toNat < x51.length) (cond ((x51.getD ((0 : Int).toNat) (Ty.dflt (.int .i64))) != (x51.getD ((1 : Int).toNat) (Ty.dflt (.int .i64)))) (some (-1 : Int)) (F81_j0 N x51)))))) (F81_j0 N x51))))
def F81_j3 (N : Nat) (a0 : (List Z49)) (x44 : Int) (x45 : ByteArray) (x46 : Int) (x47 : Int) (x48 : Int) (x49 : Bool) (x50 : (List Int)) (x51 : (List Int)) : Option (Int) :=
  cond (x44 == (0 : Int)) (andO (F50 N a0 x45) fun y130 => cond (decide (y130 < (0 : Int))) (some (-1 : Int)) (gd (InR y130 a0.length) (some ((a0.getD y130.toNat (Ty.dflt Y49)).2)))) (cond (x44 == (1 : Int)) (F81_j2 N x44 x46 x48 x50 x51 (x44 == (1 : Int))) (F81_j2 N x44 x46 x48 x50 x51 (x44 == (5 : Int))))
def F81_l1_b (N : Nat) (a0 : (List Z49)) (a1 : (List Z52)) (self : (List Z49) → (List Z52) → Int → Option (Int)) (y2 : (List Int)) (nx238 : Int → ByteArray → Int → Int → Int → Bool → (List Int) → (List Int) → Int → Option (Int)) (x221 : Int) (x222 : ByteArray) (x223 : Int) (x224 : Int) (x225 : Int) (x226 : Bool) (x227 : (List Int)) (x228 : (List Int)) (x229 : Int) : Option (Int) :=
  cond (decide (x229 < (y2.length : Int))) (gd (InR x229 y2.length) (gd (x229.toNat < y2.length) (andO (self a0 a1 (y2.getD x229.toNat (Ty.dflt (.int .i64)))) fun y245 => cond (decide (y245 < (0 : Int))) (some (-1 : Int)) (gd (x228.length + ([y245]).length ≤ lim (.int .i64)) (nx238 x221 x222 x223 x224 x225 x226 x227 (x228 ++ ([y245])) (IntKind.i64.wrap (x229 + (1 : Int)))))))) (F81_j3 N a0 x221 x222 x223 x224 x225 x226 x227 x228)
def F81_l1 (N : Nat) (a0 : (List Z49)) (a1 : (List Z52)) (self : (List Z49) → (List Z52) → Int → Option (Int)) (y2 : (List Int)) := loopF (F81_l1_b N a0 a1 self y2) (fun _ _ _ _ _ _ _ _ _ => none)
theorem F81_l1_s N a0 a1 (self : (List Z49) → (List Z52) → Int → Option (Int)) y2 {k} (hk : 0 < k) x221 x222 x223 x224 x225 x226 x227 x228 x229 : F81_l1 N a0 a1 self y2 k x221 x222 x223 x224 x225 x226 x227 x228 x229 = F81_l1_b N a0 a1 self y2 (F81_l1 N a0 a1 self y2 (k - 1)) x221 x222 x223 x224 x225 x226 x227 x228 x229 := by cases k;cases hk;rfl
def F81_b (N : Nat) (self : (List Z49) → (List Z52) → Int → Option (Int)) (a0 : (List Z49)) (a1 : (List Z52)) (a2 : Int) : Option (Int) :=
  gd (InR a2 a1.length) (andO (F49 N a1 a2) fun y2 => F81_l1 N a0 a1 self y2 N ((a1.getD a2.toNat (Ty.dflt Y52)).1) ((a1.getD a2.toNat (Ty.dflt Y52)).2.1) ((a1.getD a2.toNat (Ty.dflt Y52)).2.2.1) ((a1.getD a2.toNat (Ty.dflt Y52)).2.2.2.1) ((a1.getD a2.toNat (Ty.dflt Y52)).2.2.2.2.1) ((a1.getD a2.toNat (Ty.dflt Y52)).2.2.2.2.2.1) ((a1.getD a2.toNat (Ty.dflt Y52)).2.2.2.2.2.2) ([]) (0 : Int))
theorem ok81_b (N : Nat) (self : (List Z49) → (List Z52) → Int → Option (Int)) (ih : ∀ (a0 : (List Z49)) (a1 : (List Z52)) (a2 : Int) (r : Int), self a0 a1 a2 = some r → Con prog 81 [Vv (.sl Y49) a0, Vv (.sl Y52) a1, I a2] [.lf (.v (.int .i64) r)]) (a0 : (List Z49)) (a1 : (List Z52)) (a2 : Int) {r : Int} (h : F81_b N self a0 a1 a2 = some r) : Con prog 81 [Vv (.sl Y49) a0, Vv (.sl Y52) a1, I a2] [.lf (.v (.int .i64) r)] := by
 refine ctr [.lf (.v (.int .i64))] K func81 rfl fun w0 E0 ht => ?_
 unfold F81_b at h
 show VW _ _ _ _ _ (retQ _ _ _ _) _
 refine nR K (tn 1) ?_
 obtain⟨g1,h⟩:=gS h
 refine nR K (pu 2 (an g1 (tn 3))) <| nR K (tn 2) <| sq <| VW.region <| nG K 2 (tn 2) ?_
 obtain⟨y2,hy,h⟩:=aS h
 refine clc false [.t (.sl Y52), .t (.int .i64)] [] (some 21) K (ok49 N _ _ hy) <| nN K (tn 1) ?_
 refine VW.join (fun s => ∃ x44 x45 x46 x47 x48 x49 x50 x51, s = ⟨[(0, Vv (.sl Y49) a0), (7, .lf (.ptr 0 0 0 0)), (8, hh 1)], [bx [zi x44, zs x45, zi x46, zi x47, zi x48, zb x49, .v (.sl (.int .i64)) x50] 56, ar 0 (.int .i64) x51 .dp]⟩ ∧ F81_j3 N a0 x44 x45 x46 x47 x48 x49 x50 x51 = some r) ?_ ?_
 ·refine nR K (tn 1) <| VW.block <| lop (fun k s => ∃ x221 x222 x223 x224 x225 x226 x227 x228 x229, s = ⟨[(0, Vv (.sl Y49) a0), (1, Vv (.sl Y52) a1), (7, .lf (.ptr 0 0 0 0)), (8, hh 1), (9, hh 2), (10, I x229)], [bx [zi x221, zs x222, zi x223, zi x224, zi x225, zb x226, .v (.sl (.int .i64)) x227] 56, ar 0 (.int .i64) x228 .dp, ar 0 (.int .i64) y2 .dp]⟩ ∧ F81_l1 N a0 a1 self y2 k x221 x222 x223 x224 x225 x226 x227 x228 x229 = some r) N [.nilS 8 (.int .i64) .dp, .ren [0, 1, 7, 8, 9, 10] [0, 2, 1]] ⟨(a1.getD a2.toNat D52).1, (a1.getD a2.toNat D52).2.1, (a1.getD a2.toNat D52).2.2.1, (a1.getD a2.toNat D52).2.2.2.1, (a1.getD a2.toNat D52).2.2.2.2.1, (a1.getD a2.toNat D52).2.2.2.2.2.1, (a1.getD a2.toNat D52).2.2.2.2.2.2, [], (0 : Int), rfl, h⟩ ?_
  rintro k238 s ⟨x221, x222, x223, x224, x225, x226, x227, x228, x229, rfl, h⟩
  cases k238 with
  | zero => cases show none = some r from h
  | succ k238 =>
   replace h : F81_l1_b N a0 a1 self y2 (F81_l1 N a0 a1 self y2 k238) x221 x222 x223 x224 x225 x226 x227 x228 x229 = some r := h
   unfold F81_l1_b at h
   refine sq <| nR K (tn 4) ?_
   refine cnd h ?_ ?_<;>intro h
   ·refine VW.skip <| sq <| VW.block <| sq <| VW.region ?_
    obtain⟨g243,h⟩:=gS h
    obtain⟨g244,h⟩:=gS h
    refine nG K 6 (pu 4 (an g243 (an g244 (tn 0)))) ?_
    obtain⟨y245,hy,h⟩:=aS h
    refine clc false [.t (.sl Y49), .t (.sl Y52), .t (.int .i64)] [] (some 34) K (ih _ _ _ _ hy) <| nN K (tn 1) <| sq <| nR K (tn 2) ?_
    refine cnd h ?_ ?_<;>intro h
    ·refine nR K (tn 1) ?_
     cases h; exact VW.ret (rt [])
    refine VW.skip ?_
    obtain⟨g246,h⟩:=gS h
    refine nE K (pu 3 (an g246 (tn 1))) <| nE K (tn 3) ?_
    exact aro [.ren [0, 1, 7, 8, 9, 10] [0, 1, 2]] ⟨x221, x222, x223, x224, x225, x226, x227, (x228 ++ ([y245])), (wr (x229 + (1 : Int))), rfl, h⟩
   refine VW.exit ?_
   exact arv [.ren [0, 7, 8] [0, 1]] ⟨x221, x222, x223, x224, x225, x226, x227, x228, rfl, h⟩
 rintro s ⟨x44, x45, x46, x47, x48, x49, x50, x51, rfl, h⟩
 unfold F81_j3 at h
 refine VW.join (fun s => s = ⟨[(8, hh 0)], [ar 0 (.int .i64) x51 .dp]⟩ ∧ F81_j0 N x51 = some r) ?_ ?_
 ·refine nR K (tn 2) <| VW.block <| nR K (tn 2) ?_
  refine cnd h ?_ ?_<;>intro h
  ·refine sq <| VW.region <| nG K 3 (tn 3) ?_
   obtain⟨y130,hy,h⟩:=aS h
   refine clc false [.t (.sl Y49), .t .str] [] (some 48) K (ok50 N _ _ hy) <| nN K (tn 1) <| sq <| nR K (tn 2) ?_
   refine cnd h ?_ ?_<;>intro h
   ·refine nR K (tn 1) ?_
    cases h; exact VW.ret (rt [])
   refine VW.skip ?_
   obtain⟨g131,h⟩:=gS h
   refine nR K (pu 2 (an g131 (tn 3))) ?_
   cases h; exact VW.ret (rt [])
  refine VW.join (fun s => ∃ x132, s = ⟨[(7, .lf (.ptr 0 0 0 0)), (8, hh 1), (42, I x44), (56, B x132)], [bx [zi x44, zs x45, zi x46, zi x47, zi x48, zb x49, .v (.sl (.int .i64)) x50] 56, ar 0 (.int .i64) x51 .dp]⟩ ∧ F81_j2 N x44 x46 x48 x50 x51 x132 = some r) ?_ ?_
  ·refine nR K (tn 2) ?_
   refine cnd h ?_ ?_<;>intro h
   ·refine VW.skip ?_
    exact arv [.ren [7, 8, 42, 56] [0, 1]] ⟨(x44 == (1 : Int)), rfl, h⟩
   refine nE K (tn 2) ?_
   exact arv [.ren [7, 8, 42, 56] [0, 1]] ⟨(x44 == (5 : Int)), rfl, h⟩
  rintro s ⟨x132, rfl, h⟩
  unfold F81_j2 at h
  refine cnd h ?_ ?_<;>intro h
  ·refine sq ?_
   obtain⟨g133,h⟩:=gS h
   obtain⟨g134,h⟩:=gS h
   refine dr K [] [] [] [8, 64] [1] (pu 3 (an g133 (an g134 (tn 1)))) trivial ?_
   refine cnd h ?_ ?_<;>intro h
   ·refine nR K (tn 1) ?_
    cases h; exact VW.ret (rt [])
   refine VW.skip ?_
   exact arv [.ren [8] [0]] ⟨rfl, h⟩
  refine nR K (tn 2) ?_
  refine cnd h ?_ ?_<;>intro h
  ·refine VW.join (fun s => s = ⟨[(7, .lf (.ptr 0 0 0 0))], [bx [zi x44, zs x45, zi x46, zi x47, zi x48, zb x49, .v (.sl (.int .i64)) x50] 56]⟩ ∧ F81_j1 N x50 = some r) ?_ ?_
   ·refine nR K (tn 1) <| VW.block <| lop (fun k s => ∃ x162, s = ⟨[(7, .lf (.ptr 0 0 0 0)), (8, hh 1), (13, I x162)], [bx [zi x44, zs x45, zi x46, zi x47, zi x48, zb x49, .v (.sl (.int .i64)) x50] 56, ar 0 (.int .i64) x51 .dp]⟩ ∧ F81_l0 N x50 x51 k x162 = some r) N [.ren [7, 8, 13] [0, 1]] ⟨(0 : Int), rfl, h⟩ ?_
    rintro k169 s ⟨x162, rfl, h⟩
    cases k169 with
    | zero => cases show none = some r from h
    | succ k169 =>
     replace h : F81_l0_b N x50 x51 (F81_l0 N x50 x51 k169) x162 = some r := h
     unfold F81_l0_b at h
     refine sq <| nR K (tn 5) ?_
     refine cnd h ?_ ?_<;>intro h
     ·refine VW.skip <| sq <| VW.block <| sq ?_
      obtain⟨g173,h⟩:=gS h
      obtain⟨g174,h⟩:=gS h
      obtain⟨g175,h⟩:=gS h
      refine dr K [] [] [] [7, 8, 13, 82] [0, 1] (pu 3 (an g173 (pu 2 (an g174 (an g175 (tn 1)))))) trivial ?_
      refine cnd h ?_ ?_<;>intro h
      ·refine nR K (tn 1) ?_
       cases h; exact VW.ret (rt [])
      refine VW.skip <| nE K (tn 3) ?_
      exact aro [.ren [7, 8, 13] [0, 1]] ⟨(wr (x162 + (1 : Int))), rfl, h⟩
     refine VW.exit ?_
     exact arv [.ren [7] [0]] ⟨rfl, h⟩
   rintro s ⟨rfl, h⟩
   unfold F81_j1 at h
   refine nR K (tn 4) ?_
   cases h; exact VW.ret (rt [])
  refine nR K (tn 2) ?_
  refine cnd h ?_ ?_<;>intro h
  ·refine sq <| sq ?_
   obtain⟨g186,h⟩:=gS h
   obtain⟨g187,h⟩:=gS h
   rcases Bool.eq_false_or_eq_true (decide (x46 ≥ (x51.getD ((0 : Int).toNat) (Ty.dflt (.int .i64))))) with hb188 | hb188
   ·replace h := cond_t h hb188
    refine dr K [(6, .lit true)] [(6, 0)] [] [8, 111] [1] (pu 3 (an g186 (an g187 (tn 19)))) ⟨qB 94 hb188 K trivial, trivial⟩ ?_
    refine VW.cond (b := true) (by kernel_rfl) (fun _ => ?_) (fun h' => nomatch h')
    refine nR K (tn 1) ?_
    cases h; exact VW.ret (rt [])
   replace h := cond_f h hb188
   obtain⟨g189,h⟩:=gS h
   obtain⟨g190,h⟩:=gS h
   rcases Bool.eq_false_or_eq_true (decide (x48 ≥ (x51.getD ((1 : Int).toNat) (Ty.dflt (.int .i64))))) with hb191 | hb191
   ·replace h := cond_t h hb191
    refine dr K [(6, .lit false), (14, .lit true)] [(6, 0), (14, 0)] [] [8, 111] [1] (pu 3 (an g186 (an g187 (pu 5 (an g189 (an g190 (tn 12))))))) ⟨qB 94 hb188 K trivial, qB 102 hb191 K trivial, trivial⟩ ?_
    refine VW.cond (b := true) (by kernel_rfl) (fun _ => ?_) (fun h' => nomatch h')
    refine nR K (tn 1) ?_
    cases h; exact VW.ret (rt [])
   replace h := cond_f h hb191
   obtain⟨g192,h⟩:=gS h
   obtain⟨g193,h⟩:=gS h
   obtain⟨g194,h⟩:=gS h
   obtain⟨g195,h⟩:=gS h
   refine dr K [(6, .lit false), (14, .lit false)] [(6, 0), (14, 0)] [] [8, 111] [1] (pu 3 (an g186 (an g187 (pu 5 (an g189 (an g190 (pu 4 (an g192 (an g193 (pu 1 (an g194 (an g195 (tn 3))))))))))))) ⟨qB 94 hb188 K trivial, qB 102 hb191 K trivial, trivial⟩ ?_
   refine cnd h ?_ ?_<;>intro h
   ·refine nR K (tn 1) ?_
    cases h; exact VW.ret (rt [])
   refine VW.skip <| sq ?_
   obtain⟨g196,h⟩:=gS h
   obtain⟨g197,h⟩:=gS h
   obtain⟨g198,h⟩:=gS h
   obtain⟨g199,h⟩:=gS h
   refine dr K [] [] [] [6] [] (pu 1 (an g196 (an g197 (pu 1 (an g198 (an g199 (tn 2))))))) trivial ?_
   cases h; exact VW.ret (rt [])
  refine nR K (tn 2) ?_
  refine cnd h ?_ ?_<;>intro h
  ·refine sq ?_
   obtain⟨g200,h⟩:=gS h
   obtain⟨g201,h⟩:=gS h
   obtain⟨g202,h⟩:=gS h
   obtain⟨g203,h⟩:=gS h
   refine dr K [] [] [] [8, 127] [1] (pu 1 (an g200 (an g201 (pu 1 (an g202 (an g203 (tn 1))))))) trivial ?_
   refine cnd h ?_ ?_<;>intro h
   ·refine nR K (tn 1) ?_
    cases h; exact VW.ret (rt [])
   refine VW.skip ?_
   exact arv [.ren [8] [0]] ⟨rfl, h⟩
  refine VW.skip ?_
  exact arv [.ren [8] [1]] ⟨rfl, h⟩
 rintro s ⟨rfl, h⟩
 unfold F81_j0 at h
 obtain⟨g127,h⟩:=gS h
 obtain⟨g128,h⟩:=gS h
 refine nR K (pu 1 (an g127 (an g128 (tn 1)))) ?_
 cases h; exact VW.ret (rt [])
def F81_r (N : Nat) := loopF (F81_b N) (fun _ _ _ => none)
theorem F81_s N {k} (hk : 0 < k) a0 a1 a2 : F81_r N k a0 a1 a2 = F81_b N (F81_r N (k - 1)) a0 a1 a2 := by cases k;cases hk;rfl
def F81 (N : Nat) : (List Z49) → (List Z52) → Int → Option (Int) := F81_r N N
theorem ok81_k (N : Nat) : ∀ (k : Nat) (a0 : (List Z49)) (a1 : (List Z52)) (a2 : Int) (r : Int), loopF (F81_b N) (fun _ _ _ => none) k a0 a1 a2 = some r → Con prog 81 [Vv (.sl Y49) a0, Vv (.sl Y52) a1, I a2] [.lf (.v (.int .i64) r)]
 | 0, a0, a1, a2, r, h => nomatch (show (none : Option (Int)) = some r from h)
 | k + 1, a0, a1, a2, r, h => ok81_b N _ (ok81_k N k) a0 a1 a2 h
theorem ok81 N a0 a1 a2 {r} (h : F81 N a0 a1 a2 = some r) : Con prog 81 [Vv (.sl Y49) a0, Vv (.sl Y52) a1, I a2] [.lf (.v (.int .i64) r)] := ok81_k N N a0 a1 a2 r h
def F48 (N : Nat) (a0 : (List Z49)) (a1 : (List Z52)) : Option (Int) :=
  andO (F46 N a0) fun y3 => cond (!y3) (some (-1 : Int)) (andO (F80 N a1) fun y4 => cond (!y4) (some (-1 : Int)) (andO (F81 N a0 a1 (0 : Int)) fun y5 => some y5))
theorem ok48 N a0 a1 {r} (h : F48 N a0 a1 = some r) : Con prog 48 [Vv (.sl Y49) a0, Vv (.sl Y52) a1] [.lf (.v (.int .i64) r)] := by
 refine ctr [.lf (.v (.int .i64))] K func48 rfl fun w0 E0 ht => ?_
 unfold F48 at h
 show VW _ _ _ _ _ (retQ _ _ _ _) _
 refine nR K (tn 1) <| sq <| sq <| VW.region <| nG K 1 (tn 1) ?_
 obtain⟨y3,hy,h⟩:=aS h
 refine clc false [.t (.sl Y49)] [] (some 6) K (ok46 N _ hy) <| nG K 2 (tn 2) ?_
 refine spC 8 h ?_ ?_<;>intro h
 ·refine nN K (tn 4) ?_
  refine VW.cond (b := true) (by kernel_rfl) (fun _ => ?_) (fun h' => nomatch h')
  refine nR K (tn 1) ?_
  cases h; exact VW.ret (rt [])
 refine nG K 1 (tn 1) <| VO.on (j := 3) (want := false) (d := 8) (b := false) rfl rfl rfl (by kernel_rfl) rfl ?_
 obtain⟨y4,hy,h⟩:=aS h
 refine clc false [.t (.sl Y52)] [] (some 10) K (ok80 N _ hy) <| nN K (tn 2) ?_
 refine cnd h ?_ ?_<;>intro h
 ·refine nR K (tn 1) ?_
  cases h; exact VW.ret (rt [])
 refine VW.skip <| sq <| VW.region <| nG K 2 (tn 2) ?_
 obtain⟨y5,hy,h⟩:=aS h
 refine clc false [.t (.sl Y49), .t (.sl Y52), .t (.int .i64)] [] (some 15) K (ok81 N _ _ _ hy) <| nN K (tn 1) ?_
 cases h; exact VW.ret (rt [])
def F31 (N : Nat) (a0 : (List Z49)) (a1 : (List Z52)) : Option (Bool) :=
  andO (F48 N a0 a1) fun y1 => some (y1 != (-1 : Int))
theorem ok31 N a0 a1 {r} (h : F31 N a0 a1 = some r) : Con prog 31 [Vv (.sl Y49) a0, Vv (.sl Y52) a1] [.lf (.v .bool r)] := by
 refine ctr [.lf (.v .bool)] K func31 rfl fun w0 E0 ht => ?_
 unfold F31 at h
 show VW _ _ _ _ _ (retQ _ _ _ _) _
 refine nR K (tn 1) <| sq <| VW.region <| nG K 2 (tn 2) ?_
 obtain⟨y1,hy,h⟩:=aS h
 refine clc false [.t (.sl Y49), .t (.sl Y52)] [] (some 7) K (ok48 N _ _ hy) <| nN K (tn 2) ?_
 cases h; exact VW.ret (rt [])
def F84 (N : Nat) (a0 : Z52) (a1 : Int) : Option (Bool) :=
  cond (a1 == (-2000000 : Int)) (some (a0.2.2.2.1 == (3 : Int))) (cond (a0.2.2.2.1 == (0 : Int)) (some (a1 == a0.2.2.2.2.1)) (cond (a0.2.2.2.1 == (1 : Int)) (some (decide (a1 < a0.2.2.2.2.1))) (cond (a0.2.2.2.1 == (2 : Int)) (some (decide (a1 > a0.2.2.2.2.1))) (some false))))
theorem ok84 N a0 a1 {r} (h : F84 N a0 a1 = some r) : Con prog 84 [.agg (lv Y52 a0), I a1] [.lf (.v .bool r)] := by
 refine ctr [.lf (.v .bool)] K func84 rfl fun w0 E0 ht => ?_
 unfold F84 at h
 show VW _ _ _ _ _ (retQ _ _ _ _) _
 refine nR K (tn 2) <| sq <| nR K (tn 2) ?_
 refine cnd h ?_ ?_<;>intro h
 ·refine nR K (tn 4) ?_
  cases h; exact VW.ret (rt [])
 refine VW.skip <| sq <| nR K (tn 2) <| VW.block <| nR K (tn 2) ?_
 refine cnd h ?_ ?_<;>intro h
 ·refine nR K (tn 5) ?_
  cases h; exact VW.ret (rt [])
 refine nR K (tn 2) ?_
 refine cnd h ?_ ?_<;>intro h
 ·refine nR K (tn 5) ?_
  cases h; exact VW.ret (rt [])
 refine nR K (tn 2) ?_
 refine cnd h ?_ ?_<;>intro h
 ·refine nR K (tn 5) ?_
  cases h; exact VW.ret (rt [])
 refine VW.skip <| nR K (tn 1) ?_
 cases h; exact VW.ret (rt [])
def F51_j0 (N : Nat) (x54 : (List (List Int))) : Option ((List (List Int))) :=
  some x54
def F51_j1 (N : Nat) (nx96 : Int → ByteArray → Int → Int → Int → Bool → (List Int) → (List (List Int)) → Int → Option ((List (List Int)))) (x75 : Int) (x76 : ByteArray) (x77 : Int) (x78 : Int) (x79 : Int) (x80 : Bool) (x81 : (List Int)) (x83 : Int) (x102 : (List (List Int))) : Option ((List (List Int))) :=
  nx96 x75 x76 x77 x78 x79 x80 x81 x102 (IntKind.i64.wrap (x83 + (1 : Int)))
def F51_l0_b (N : Nat) (a1 : (List (List Int))) (nx96 : Int → ByteArray → Int → Int → Int → Bool → (List Int) → (List (List Int)) → Int → Option ((List (List Int)))) (x75 : Int) (x76 : ByteArray) (x77 : Int) (x78 : Int) (x79 : Int) (x80 : Bool) (x81 : (List Int)) (x82 : (List (List Int))) (x83 : Int) : Option ((List (List Int))) :=
  cond (decide (x83 < (a1.length : Int))) (gd (InR x83 a1.length) (gd (InR x77 (a1.getD x83.toNat (Ty.dflt (.sl (.int .i64)))).length) (andO (F84 N (x75, (x76, (x77, (x78, (x79, (x80, x81)))))) ((a1.getD x83.toNat (Ty.dflt (.sl (.int .i64)))).getD x77.toNat (Ty.dflt (.int .i64)))) fun y106 => cond y106 (gd (InR x83 a1.length) (gd (x82.length + ([(a1.getD x83.toNat (Ty.dflt (.sl (.int .i64))))]).length ≤ lim (.sl (.int .i64))) (F51_j1 N nx96 x75 x76 x77 x78 x79 x80 x81 x83 (x82 ++ ([(a1.getD x83.toNat (Ty.dflt (.sl (.int .i64))))]))))) (F51_j1 N nx96 x75 x76 x77 x78 x79 x80 x81 x83 x82)))) (F51_j0 N x82)
def F51_l0 (N : Nat) (a1 : (List (List Int))) := loopF (F51_l0_b N a1) (fun _ _ _ _ _ _ _ _ _ => none)
theorem F51_l0_s N a1 {k} (hk : 0 < k) x75 x76 x77 x78 x79 x80 x81 x82 x83 : F51_l0 N a1 k x75 x76 x77 x78 x79 x80 x81 x82 x83 = F51_l0_b N a1 (F51_l0 N a1 (k - 1)) x75 x76 x77 x78 x79 x80 x81 x82 x83 := by cases k;cases hk;rfl
def F51 (N : Nat) (a0 : Z52) (a1 : (List (List Int))) : Option ((List (List Int))) :=
  F51_l0 N a1 N a0.1 a0.2.1 a0.2.2.1 a0.2.2.2.1 a0.2.2.2.2.1 a0.2.2.2.2.2.1 a0.2.2.2.2.2.2 ([]) (0 : Int)
theorem ok51 N a0 a1 {r} (h : F51 N a0 a1 = some r) : Con prog 51 [.agg (lv Y52 a0), Vv (.sl (.sl (.int .i64))) a1] [.lf (.own (.sl (.int .i64)) r .tp)] := by
 refine ctr [.lf (.own (.sl (.int .i64)) .tp)] K func51 rfl fun w0 E0 ht => ?_
 unfold F51 at h
 show VW _ _ _ _ _ (retQ _ _ _ _) _
 refine nR K (tn 2) <| nR K (tn 2) ?_
 refine VW.join (fun s => ∃ x54, s = ⟨[(5, hh 0)], [ar 0 (.sl (.int .i64)) x54 .tp]⟩ ∧ F51_j0 N x54 = some r) ?_ ?_
 ·refine nR K (tn 1) <| VW.block <| lop (fun k s => ∃ x75 x76 x77 x78 x79 x80 x81 x82 x83, s = ⟨[(1, Vv (.sl (.sl (.int .i64))) a1), (2, .lf (.ptr 0 0 0 0)), (5, hh 1), (6, I x83)], [bx [zi x75, zs x76, zi x77, zi x78, zi x79, zb x80, .v (.sl (.int .i64)) x81] 56, ar 0 (.sl (.int .i64)) x82 .tp]⟩ ∧ F51_l0 N a1 k x75 x76 x77 x78 x79 x80 x81 x82 x83 = some r) N [.nilS 5 (.sl (.int .i64)) .tp, .ren [1, 2, 5, 6] [0, 1]] ⟨a0.1, a0.2.1, a0.2.2.1, a0.2.2.2.1, a0.2.2.2.2.1, a0.2.2.2.2.2.1, a0.2.2.2.2.2.2, [], (0 : Int), rfl, h⟩ ?_
  rintro k96 s ⟨x75, x76, x77, x78, x79, x80, x81, x82, x83, rfl, h⟩
  cases k96 with
  | zero => cases show none = some r from h
  | succ k96 =>
   replace h : F51_l0_b N a1 (F51_l0 N a1 k96) x75 x76 x77 x78 x79 x80 x81 x82 x83 = some r := h
   unfold F51_l0_b at h
   refine sq <| nR K (tn 4) ?_
   refine cnd h ?_ ?_<;>intro h
   ·refine VW.skip ?_
    refine VW.join (fun s => ∃ x102, s = ⟨[(1, Vv (.sl (.sl (.int .i64))) a1), (2, .lf (.ptr 0 0 0 0)), (5, hh 1), (6, I x83)], [bx [zi x75, zs x76, zi x77, zi x78, zi x79, zb x80, .v (.sl (.int .i64)) x81] 56, ar 0 (.sl (.int .i64)) x102 .tp]⟩ ∧ F51_j1 N (F51_l0 N a1 k96) x75 x76 x77 x78 x79 x80 x81 x83 x102 = some r) ?_ ?_
    ·refine VW.block <| sq ?_
     obtain⟨g104,h⟩:=gS h
     obtain⟨g105,h⟩:=gS h
     obtain⟨y106,hy106,h⟩:=aS h
     refine dr K [(9, .cl [] (some 23) [.lf (.v .bool y106)])] [(9, 0)] [] [1, 2, 5, 6, 23] [0, 1] (pu 3 (an g104 (pu 3 (an g105 (tn 2))))) ⟨qC false [.t Y52, .t (.int .i64)] [] [] (some 23) K (ok84 N _ _ hy106), trivial⟩ ?_
     refine cnd h ?_ ?_<;>intro h
     ·obtain⟨g107,h⟩:=gS h
      obtain⟨g108,h⟩:=gS h
      refine nE K (pu 3 (an g107 (pu 2 (an g108 (tn 1))))) ?_
      exact arv [.ren [1, 2, 5, 6] [0, 1]] ⟨(x82 ++ ([(a1.getD x83.toNat (Ty.dflt (.sl (.int .i64))))])), rfl, h⟩
     refine VW.skip ?_
     exact arv [.ren [1, 2, 5, 6] [0, 1]] ⟨x82, rfl, h⟩
    rintro s ⟨x102, rfl, h⟩
    unfold F51_j1 at h
    refine nE K (tn 3) ?_
    exact aro [.ren [1, 2, 5, 6] [0, 1]] ⟨x75, x76, x77, x78, x79, x80, x81, x102, (wr (x83 + (1 : Int))), rfl, h⟩
   refine VW.exit ?_
   exact arv [.ren [5] [1]] ⟨x82, rfl, h⟩
 rintro s ⟨x54, rfl, h⟩
 unfold F51_j0 at h
 refine nR K (tn 2) ?_
 cases h; exact VW.ret (rt [some 0])
def F52_j0 (N : Nat) (x366 : (List (List Int))) : Option ((List (List Int))) :=
  some x366
def F52_j1 (N : Nat) (nx616 : Int → ByteArray → Int → Int → Int → Bool → (List Int) → (List (List Int)) → Int → Option ((List (List Int)))) (x491 : Int) (x492 : ByteArray) (x493 : Int) (x494 : Int) (x495 : Int) (x496 : Bool) (x497 : (List Int)) (x499 : Int) (x674 : (List (List Int))) : Option ((List (List Int))) :=
  nx616 x491 x492 x493 x494 x495 x496 x497 x674 (IntKind.i64.wrap (x499 + (1 : Int)))
def F52_j2 (N : Nat) (nx616 : Int → ByteArray → Int → Int → Int → Bool → (List Int) → (List (List Int)) → Int → Option ((List (List Int)))) (x491 : Int) (x492 : ByteArray) (x493 : Int) (x494 : Int) (x495 : Int) (x496 : Bool) (x497 : (List Int)) (x498 : (List (List Int))) (x499 : Int) (x703 : (List Int)) : Option ((List (List Int))) :=
  gd (x498.length + ([x703]).length ≤ lim (.sl (.int .i64))) (F52_j1 N nx616 x491 x492 x493 x494 x495 x496 x497 x499 (x498 ++ ([x703])))
def F52_l0_b (N : Nat) (a1 : (List (List Int))) (nx616 : Int → ByteArray → Int → Int → Int → Bool → (List Int) → (List (List Int)) → Int → Option ((List (List Int)))) (x491 : Int) (x492 : ByteArray) (x493 : Int) (x494 : Int) (x495 : Int) (x496 : Bool) (x497 : (List Int)) (x498 : (List (List Int))) (x499 : Int) (nx724 : (List Int) → Int → Option ((List (List Int)))) (x714 : (List Int)) (x715 : Int) : Option ((List (List Int))) :=
  cond (decide (x715 < (x497.length : Int))) (gd (InR x499 a1.length) (gd (InR x715 x497.length) (gd (InR (x497.getD x715.toNat (Ty.dflt (.int .i64))) (a1.getD x499.toNat (Ty.dflt (.sl (.int .i64)))).length) (gd (x714.length + ([((a1.getD x499.toNat (Ty.dflt (.sl (.int .i64)))).getD (x497.getD x715.toNat (Ty.dflt (.int .i64))).toNat (Ty.dflt (.int .i64)))]).length ≤ lim (.int .i64)) (nx724 (x714 ++ ([((a1.getD x499.toNat (Ty.dflt (.sl (.int .i64)))).getD (x497.getD x715.toNat (Ty.dflt (.int .i64))).toNat (Ty.dflt (.int .i64)))])) (IntKind.i64.wrap (x715 + (1 : Int)))))))) (F52_j2 N nx616 x491 x492 x493 x494 x495 x496 x497 x498 x499 x714)
def F52_l0 (N : Nat) (a1 : (List (List Int))) (nx616 : Int → ByteArray → Int → Int → Int → Bool → (List Int) → (List (List Int)) → Int → Option ((List (List Int)))) (x491 : Int) (x492 : ByteArray) (x493 : Int) (x494 : Int) (x495 : Int) (x496 : Bool) (x497 : (List Int)) (x498 : (List (List Int))) (x499 : Int) := loopF (F52_l0_b N a1 nx616 x491 x492 x493 x494 x495 x496 x497 x498 x499) (fun _ _ => none)
theorem F52_l0_s N a1 nx616 x491 x492 x493 x494 x495 x496 x497 x498 x499 {k} (hk : 0 < k) x714 x715 : F52_l0 N a1 nx616 x491 x492 x493 x494 x495 x496 x497 x498 x499 k x714 x715 = F52_l0_b N a1 nx616 x491 x492 x493 x494 x495 x496 x497 x498 x499 (F52_l0 N a1 nx616 x491 x492 x493 x494 x495 x496 x497 x498 x499 (k - 1)) x714 x715 := by cases k;cases hk;rfl
def F52_l1_b (N : Nat) (a1 : (List (List Int))) (nx616 : Int → ByteArray → Int → Int → Int → Bool → (List Int) → (List (List Int)) → Int → Option ((List (List Int)))) (x491 : Int) (x492 : ByteArray) (x493 : Int) (x494 : Int) (x495 : Int) (x496 : Bool) (x497 : (List Int)) (x498 : (List (List Int))) (x499 : Int) : Option ((List (List Int))) :=
  cond (decide (x499 < (a1.length : Int))) (F52_l0 N a1 nx616 x491 x492 x493 x494 x495 x496 x497 x498 x499 N ([]) (0 : Int)) (F52_j0 N x498)
def F52_l1 (N : Nat) (a1 : (List (List Int))) := loopF (F52_l1_b N a1) (fun _ _ _ _ _ _ _ _ _ => none)
theorem F52_l1_s N a1 {k} (hk : 0 < k) x491 x492 x493 x494 x495 x496 x497 x498 x499 : F52_l1 N a1 k x491 x492 x493 x494 x495 x496 x497 x498 x499 = F52_l1_b N a1 (F52_l1 N a1 (k - 1)) x491 x492 x493 x494 x495 x496 x497 x498 x499 := by cases k;cases hk;rfl
def F52 (N : Nat) (a0 : Z52) (a1 : (List (List Int))) : Option ((List (List Int))) :=
  F52_l1 N a1 N a0.1 a0.2.1 a0.2.2.1 a0.2.2.2.1 a0.2.2.2.2.1 a0.2.2.2.2.2.1 a0.2.2.2.2.2.2 ([]) (0 : Int)
theorem ok52 N a0 a1 {r} (h : F52 N a0 a1 = some r) : Con prog 52 [.agg (lv Y52 a0), Vv (.sl (.sl (.int .i64))) a1] [.lf (.own (.sl (.int .i64)) r .dp)] := by
 refine ctr [.lf (.own (.sl (.int .i64)) .dp)] K func52 rfl fun w0 E0 ht => ?_
 unfold F52 at h
 show VW _ _ _ _ _ (retQ _ _ _ _) _
 refine nR K (tn 2) <| nR K (tn 2) ?_
 refine VW.join (fun s => ∃ x366, s = ⟨[(5, hh 0)], [ar 0 (.sl (.int .i64)) x366 .dp]⟩ ∧ F52_j0 N x366 = some r) ?_ ?_
 ·refine nR K (tn 1) <| VW.block <| lop (fun k s => ∃ x491 x492 x493 x494 x495 x496 x497 x498 x499, s = ⟨[(1, Vv (.sl (.sl (.int .i64))) a1), (2, .lf (.ptr 0 0 0 0)), (5, hh 1), (6, I x499)], [bx [zi x491, zs x492, zi x493, zi x494, zi x495, zb x496, .v (.sl (.int .i64)) x497] 56, ar 0 (.sl (.int .i64)) x498 .dp]⟩ ∧ F52_l1 N a1 k x491 x492 x493 x494 x495 x496 x497 x498 x499 = some r) N [.nilS 5 (.sl (.int .i64)) .dp, .ren [1, 2, 5, 6] [0, 1]] ⟨a0.1, a0.2.1, a0.2.2.1, a0.2.2.2.1, a0.2.2.2.2.1, a0.2.2.2.2.2.1, a0.2.2.2.2.2.2, [], (0 : Int), rfl, h⟩ ?_
  rintro k616 s ⟨x491, x492, x493, x494, x495, x496, x497, x498, x499, rfl, h⟩
  cases k616 with
  | zero => cases show none = some r from h
  | succ k616 =>
   replace h : F52_l1_b N a1 (F52_l1 N a1 k616) x491 x492 x493 x494 x495 x496 x497 x498 x499 = some r := h
   unfold F52_l1_b at h
   refine sq <| nR K (tn 4) ?_
   refine cnd h ?_ ?_<;>intro h
   ·refine VW.skip ?_
    refine VW.join (fun s => ∃ x674, s = ⟨[(1, Vv (.sl (.sl (.int .i64))) a1), (2, .lf (.ptr 0 0 0 0)), (5, hh 1), (6, I x499)], [bx [zi x491, zs x492, zi x493, zi x494, zi x495, zb x496, .v (.sl (.int .i64)) x497] 56, ar 0 (.sl (.int .i64)) x674 .dp]⟩ ∧ F52_j1 N (F52_l1 N a1 k616) x491 x492 x493 x494 x495 x496 x497 x499 x674 = some r) ?_ ?_
    ·refine VW.block <| nR K (tn 2) ?_
     refine VW.join (fun s => ∃ x703, s = ⟨[(1, Vv (.sl (.sl (.int .i64))) a1), (2, .lf (.ptr 0 0 0 0)), (5, hh 1), (6, I x499), (7, hh 2)], [bx [zi x491, zs x492, zi x493, zi x494, zi x495, zb x496, .v (.sl (.int .i64)) x497] 56, ar 0 (.sl (.int .i64)) x498 .dp, ar 0 (.int .i64) x703 .dp]⟩ ∧ F52_j2 N (F52_l1 N a1 k616) x491 x492 x493 x494 x495 x496 x497 x498 x499 x703 = some r) ?_ ?_
     ·refine nR K (tn 1) <| VW.block <| lop (fun k s => ∃ x714 x715, s = ⟨[(1, Vv (.sl (.sl (.int .i64))) a1), (2, .lf (.ptr 0 0 0 0)), (5, hh 1), (6, I x499), (7, hh 2), (8, I x715)], [bx [zi x491, zs x492, zi x493, zi x494, zi x495, zb x496, .v (.sl (.int .i64)) x497] 56, ar 0 (.sl (.int .i64)) x498 .dp, ar 0 (.int .i64) x714 .dp]⟩ ∧ F52_l0 N a1 (F52_l1 N a1 k616) x491 x492 x493 x494 x495 x496 x497 x498 x499 k x714 x715 = some r) N [.nilS 7 (.int .i64) .dp, .ren [1, 2, 5, 6, 7, 8] [0, 1, 2]] ⟨[], (0 : Int), rfl, h⟩ ?_
      rintro k724 s ⟨x714, x715, rfl, h⟩
      cases k724 with
      | zero => cases show none = some r from h
      | succ k724 =>
       replace h : F52_l0_b N a1 (F52_l1 N a1 k616) x491 x492 x493 x494 x495 x496 x497 x498 x499 (F52_l0 N a1 (F52_l1 N a1 k616) x491 x492 x493 x494 x495 x496 x497 x498 x499 k724) x714 x715 = some r := h
       unfold F52_l0_b at h
       refine sq <| nR K (tn 5) ?_
       refine cnd h ?_ ?_<;>intro h
       ·refine VW.skip <| sq <| VW.block ?_
        obtain⟨g729,h⟩:=gS h
        obtain⟨g730,h⟩:=gS h
        obtain⟨g731,h⟩:=gS h
        obtain⟨g732,h⟩:=gS h
        refine dr K [] [] [12, 13] [1, 2, 5, 6, 7, 8] [0, 1, 2] (pu 3 (an g729 (pu 4 (an g730 (pu 1 (an g731 (pu 2 (an g732 (tn 1))))))))) trivial <| nE K (tn 3) ?_
        exact aro [.ren [1, 2, 5, 6, 7, 8] [0, 1, 2]] ⟨(x714 ++ ([((a1.getD x499.toNat (Ty.dflt (.sl (.int .i64)))).getD (x497.getD x715.toNat (Ty.dflt (.int .i64))).toNat (Ty.dflt (.int .i64)))])), (wr (x715 + (1 : Int))), rfl, h⟩
       refine VW.exit ?_
       exact arv [.ren [1, 2, 5, 6, 7] [0, 1, 2]] ⟨x714, rfl, h⟩
     rintro s ⟨x703, rfl, h⟩
     unfold F52_j2 at h
     refine VW.region <| nG K 2 (tn 2) <| VO.litA (d := 40) (v := hh 3) (H' := [bx [zi x491, zs x492, zi x493, zi x494, zi x495, zb x496, .v (.sl (.int .i64)) x497] 56, ar 0 (.sl (.int .i64)) x498 .dp, none, ar 0 (.sl (.int .i64)) ([x703]) .dp]) K (by kernel_rfl) ?_
     obtain⟨g704,h⟩:=gS h
     refine VO.appM (d := 41) (φ := x498.length + ([x703]).length ≤ lim (.sl (.int .i64))) (v := .lf (.hd 1 1 none)) (H' := [bx [zi x491, zs x492, zi x493, zi x494, zi x495, zb x496, .v (.sl (.int .i64)) x497] 56, ar 1 (.sl (.int .i64)) (x498 ++ ([x703])) .dp, none, none]) K (by kernel_rfl) g704 <| nN K (tn 1) ?_
     exact arv [.ren [1, 2, 5, 6] [0, 1]] ⟨(x498 ++ ([x703])), rfl, h⟩
    rintro s ⟨x674, rfl, h⟩
    unfold F52_j1 at h
    refine nE K (tn 3) ?_
    exact aro [.ren [1, 2, 5, 6] [0, 1]] ⟨x491, x492, x493, x494, x495, x496, x497, x674, (wr (x499 + (1 : Int))), rfl, h⟩
   refine VW.exit ?_
   exact arv [.ren [5] [1]] ⟨x498, rfl, h⟩
 rintro s ⟨x366, rfl, h⟩
 unfold F52_j0 at h
 refine nR K (tn 2) ?_
 cases h; exact VW.ret (rt [some 0])
def F56_j0 (N : Nat) (x16 : (List Int)) : Option ((List Int)) :=
  some x16
def F56_l0_b (N : Nat) (a0 : (List Int)) (nx28 : (List Int) → Int → Option ((List Int))) (x22 : (List Int)) (x23 : Int) : Option ((List Int)) :=
  cond (decide (x23 < (a0.length : Int))) (gd (InR x23 a0.length) (gd (x22.length + ([(a0.getD x23.toNat (Ty.dflt (.int .i64)))]).length ≤ lim (.int .i64)) (nx28 (x22 ++ ([(a0.getD x23.toNat (Ty.dflt (.int .i64)))])) (IntKind.i64.wrap (x23 + (1 : Int)))))) (F56_j0 N x22)
def F56_l0 (N : Nat) (a0 : (List Int)) := loopF (F56_l0_b N a0) (fun _ _ => none)
theorem F56_l0_s N a0 {k} (hk : 0 < k) x22 x23 : F56_l0 N a0 k x22 x23 = F56_l0_b N a0 (F56_l0 N a0 (k - 1)) x22 x23 := by cases k;cases hk;rfl
def F56 (N : Nat) (a0 : (List Int)) : Option ((List Int)) :=
  F56_l0 N a0 N ([]) (0 : Int)
theorem ok56 N a0 {r} (h : F56 N a0 = some r) : Con prog 56 [Vv (.sl (.int .i64)) a0] [.lf (.own (.int .i64) r .dp)] := by
 refine ctr [.lf (.own (.int .i64) .dp)] K func56 rfl fun w0 E0 ht => ?_
 unfold F56 at h
 show VW _ _ _ _ _ (retQ _ _ _ _) _
 refine nR K (tn 1) <| nR K (tn 2) ?_
 refine VW.join (fun s => ∃ x16, s = ⟨[(3, hh 0)], [ar 0 (.int .i64) x16 .dp]⟩ ∧ F56_j0 N x16 = some r) ?_ ?_
 ·refine nR K (tn 1) <| VW.block <| lop (fun k s => ∃ x22 x23, s = ⟨[(0, Vv (.sl (.int .i64)) a0), (3, hh 0), (4, I x23)], [ar 0 (.int .i64) x22 .dp]⟩ ∧ F56_l0 N a0 k x22 x23 = some r) N [.nilS 3 (.int .i64) .dp, .ren [0, 3, 4] [0]] ⟨[], (0 : Int), rfl, h⟩ ?_
  rintro k28 s ⟨x22, x23, rfl, h⟩
  cases k28 with
  | zero => cases show none = some r from h
  | succ k28 =>
   replace h : F56_l0_b N a0 (F56_l0 N a0 k28) x22 x23 = some r := h
   unfold F56_l0_b at h
   refine sq <| nR K (tn 4) ?_
   refine cnd h ?_ ?_<;>intro h
   ·refine VW.skip <| sq <| VW.block ?_
    obtain⟨g31,h⟩:=gS h
    obtain⟨g32,h⟩:=gS h
    refine nE K (pu 3 (an g31 (pu 2 (an g32 (tn 1))))) <| nE K (tn 3) ?_
    exact aro [.ren [0, 3, 4] [0]] ⟨(x22 ++ ([(a0.getD x23.toNat (Ty.dflt (.int .i64)))])), (wr (x23 + (1 : Int))), rfl, h⟩
   refine VW.exit ?_
   exact arv [.ren [3] [0]] ⟨x22, rfl, h⟩
 rintro s ⟨x16, rfl, h⟩
 unfold F56_j0 at h
 refine nR K (tn 2) ?_
 cases h; exact VW.ret (rt [some 0])
def F53_j0 (N : Nat) (x2490 : (List (List Int))) : Option ((List (List Int))) :=
  some x2490
def F53_j1 (N : Nat) (nx4156 : Int → ByteArray → Int → Int → Int → Bool → (List Int) → (List (List Int)) → Int → Option ((List (List Int)))) (x3323 : Int) (x3324 : ByteArray) (x3325 : Int) (x3326 : Int) (x3327 : Int) (x3328 : Bool) (x3329 : (List Int)) (x3331 : Int) (x4568 : (List (List Int))) : Option ((List (List Int))) :=
  nx4156 x3323 x3324 x3325 x3326 x3327 x3328 x3329 x4568 (IntKind.i64.wrap (x3331 + (1 : Int)))
def F53_j2 (N : Nat) (nx4844 : (List (List Int)) → Int → Option ((List (List Int)))) (x4707 : Int) (x4912 : (List (List Int))) : Option ((List (List Int))) :=
  nx4844 x4912 (IntKind.i64.wrap (x4707 + (1 : Int)))
def F53_j3 (N : Nat) (nx4844 : (List (List Int)) → Int → Option ((List (List Int)))) (x4706 : (List (List Int))) (x4707 : Int) (x4951 : (List Int)) : Option ((List (List Int))) :=
  gd (x4706.length + ([x4951]).length ≤ lim (.sl (.int .i64))) (F53_j2 N nx4844 x4707 (x4706 ++ ([x4951])))
def F53_l0_b (N : Nat) (a2 : (List (List Int))) (nx4844 : (List (List Int)) → Int → Option ((List (List Int)))) (x4706 : (List (List Int))) (x4707 : Int) (nx4972 : (List Int) → Int → Option ((List (List Int)))) (x4962 : (List Int)) (x4963 : Int) : Option ((List (List Int))) :=
  gd (InR x4707 a2.length) (cond (decide (x4963 < ((a2.getD x4707.toNat (Ty.dflt (.sl (.int .i64)))).length : Int))) (gd (InR x4707 a2.length) (gd (InR x4963 (a2.getD x4707.toNat (Ty.dflt (.sl (.int .i64)))).length) (gd (x4962.length + ([((a2.getD x4707.toNat (Ty.dflt (.sl (.int .i64)))).getD x4963.toNat (Ty.dflt (.int .i64)))]).length ≤ lim (.int .i64)) (nx4972 (x4962 ++ ([((a2.getD x4707.toNat (Ty.dflt (.sl (.int .i64)))).getD x4963.toNat (Ty.dflt (.int .i64)))])) (IntKind.i64.wrap (x4963 + (1 : Int))))))) (F53_j3 N nx4844 x4706 x4707 x4962))
def F53_l0 (N : Nat) (a2 : (List (List Int))) (nx4844 : (List (List Int)) → Int → Option ((List (List Int)))) (x4706 : (List (List Int))) (x4707 : Int) := loopF (F53_l0_b N a2 nx4844 x4706 x4707) (fun _ _ => none)
theorem F53_l0_s N a2 nx4844 x4706 x4707 {k} (hk : 0 < k) x4962 x4963 : F53_l0 N a2 nx4844 x4706 x4707 k x4962 x4963 = F53_l0_b N a2 nx4844 x4706 x4707 (F53_l0 N a2 nx4844 x4706 x4707 (k - 1)) x4962 x4963 := by cases k;cases hk;rfl
def F53_l1_b (N : Nat) (a1 : (List (List Int))) (a2 : (List (List Int))) (nx4156 : Int → ByteArray → Int → Int → Int → Bool → (List Int) → (List (List Int)) → Int → Option ((List (List Int)))) (x3323 : Int) (x3324 : ByteArray) (x3325 : Int) (x3326 : Int) (x3327 : Int) (x3328 : Bool) (x3329 : (List Int)) (x3331 : Int) (nx4844 : (List (List Int)) → Int → Option ((List (List Int)))) (x4706 : (List (List Int))) (x4707 : Int) : Option ((List (List Int))) :=
  cond (decide (x4707 < (a2.length : Int))) (gd (InR x3331 a1.length) (gd (InR x3325 (a1.getD x3331.toNat (Ty.dflt (.sl (.int .i64)))).length) (cond (((a1.getD x3331.toNat (Ty.dflt (.sl (.int .i64)))).getD x3325.toNat (Ty.dflt (.int .i64))) == (-2000000 : Int)) (F53_j2 N nx4844 x4707 x4706) (gd (InR x4707 a2.length) (gd (InR x3327 (a2.getD x4707.toNat (Ty.dflt (.sl (.int .i64)))).length) (cond (((a1.getD x3331.toNat (Ty.dflt (.sl (.int .i64)))).getD x3325.toNat (Ty.dflt (.int .i64))) != ((a2.getD x4707.toNat (Ty.dflt (.sl (.int .i64)))).getD x3327.toNat (Ty.dflt (.int .i64)))) (F53_j2 N nx4844 x4707 x4706) (gd (InR x3331 a1.length) (andO (F56 N (a1.getD x3331.toNat (Ty.dflt (.sl (.int .i64))))) fun y4923 => F53_l0 N a2 nx4844 x4706 x4707 N y4923 (0 : Int))))))))) (F53_j1 N nx4156 x3323 x3324 x3325 x3326 x3327 x3328 x3329 x3331 x4706)
def F53_l1 (N : Nat) (a1 : (List (List Int))) (a2 : (List (List Int))) (nx4156 : Int → ByteArray → Int → Int → Int → Bool → (List Int) → (List (List Int)) → Int → Option ((List (List Int)))) (x3323 : Int) (x3324 : ByteArray) (x3325 : Int) (x3326 : Int) (x3327 : Int) (x3328 : Bool) (x3329 : (List Int)) (x3331 : Int) := loopF (F53_l1_b N a1 a2 nx4156 x3323 x3324 x3325 x3326 x3327 x3328 x3329 x3331) (fun _ _ => none)
theorem F53_l1_s N a1 a2 nx4156 x3323 x3324 x3325 x3326 x3327 x3328 x3329 x3331 {k} (hk : 0 < k) x4706 x4707 : F53_l1 N a1 a2 nx4156 x3323 x3324 x3325 x3326 x3327 x3328 x3329 x3331 k x4706 x4707 = F53_l1_b N a1 a2 nx4156 x3323 x3324 x3325 x3326 x3327 x3328 x3329 x3331 (F53_l1 N a1 a2 nx4156 x3323 x3324 x3325 x3326 x3327 x3328 x3329 x3331 (k - 1)) x4706 x4707 := by cases k;cases hk;rfl
def F53_l2_b (N : Nat) (a1 : (List (List Int))) (a2 : (List (List Int))) (nx4156 : Int → ByteArray → Int → Int → Int → Bool → (List Int) → (List (List Int)) → Int → Option ((List (List Int)))) (x3323 : Int) (x3324 : ByteArray) (x3325 : Int) (x3326 : Int) (x3327 : Int) (x3328 : Bool) (x3329 : (List Int)) (x3330 : (List (List Int))) (x3331 : Int) : Option ((List (List Int))) :=
  cond (decide (x3331 < (a1.length : Int))) (F53_l1 N a1 a2 nx4156 x3323 x3324 x3325 x3326 x3327 x3328 x3329 x3331 N x3330 (0 : Int)) (F53_j0 N x3330)
def F53_l2 (N : Nat) (a1 : (List (List Int))) (a2 : (List (List Int))) := loopF (F53_l2_b N a1 a2) (fun _ _ _ _ _ _ _ _ _ => none)
theorem F53_l2_s N a1 a2 {k} (hk : 0 < k) x3323 x3324 x3325 x3326 x3327 x3328 x3329 x3330 x3331 : F53_l2 N a1 a2 k x3323 x3324 x3325 x3326 x3327 x3328 x3329 x3330 x3331 = F53_l2_b N a1 a2 (F53_l2 N a1 a2 (k - 1)) x3323 x3324 x3325 x3326 x3327 x3328 x3329 x3330 x3331 := by cases k;cases hk;rfl
def F53 (N : Nat) (a0 : Z52) (a1 : (List (List Int))) (a2 : (List (List Int))) : Option ((List (List Int))) :=
  F53_l2 N a1 a2 N a0.1 a0.2.1 a0.2.2.1 a0.2.2.2.1 a0.2.2.2.2.1 a0.2.2.2.2.2.1 a0.2.2.2.2.2.2 ([]) (0 : Int)
theorem ok53 N a0 a1 a2 {r} (h : F53 N a0 a1 a2 = some r) : Con prog 53 [.agg (lv Y52 a0), Vv (.sl (.sl (.int .i64))) a1, Vv (.sl (.sl (.int .i64))) a2] [.lf (.own (.sl (.int .i64)) r .dp)] := by
 refine ctr [.lf (.own (.sl (.int .i64)) .dp)] K func53 rfl fun w0 E0 ht => ?_
 unfold F53 at h
 show VW _ _ _ _ _ (retQ _ _ _ _) _
 refine nR K (tn 2) <| nR K (tn 2) ?_
 refine VW.join (fun s => ∃ x2490, s = ⟨[(7, hh 0)], [ar 0 (.sl (.int .i64)) x2490 .dp]⟩ ∧ F53_j0 N x2490 = some r) ?_ ?_
 ·refine nR K (tn 1) <| VW.block <| lop (fun k s => ∃ x3323 x3324 x3325 x3326 x3327 x3328 x3329 x3330 x3331, s = ⟨[(1, Vv (.sl (.sl (.int .i64))) a1), (2, Vv (.sl (.sl (.int .i64))) a2), (3, .lf (.ptr 0 0 0 0)), (7, hh 1), (8, I x3331)], [bx [zi x3323, zs x3324, zi x3325, zi x3326, zi x3327, zb x3328, .v (.sl (.int .i64)) x3329] 56, ar 0 (.sl (.int .i64)) x3330 .dp]⟩ ∧ F53_l2 N a1 a2 k x3323 x3324 x3325 x3326 x3327 x3328 x3329 x3330 x3331 = some r) N [.nilS 7 (.sl (.int .i64)) .dp, .ren [1, 2, 3, 7, 8] [0, 1]] ⟨a0.1, a0.2.1, a0.2.2.1, a0.2.2.2.1, a0.2.2.2.2.1, a0.2.2.2.2.2.1, a0.2.2.2.2.2.2, [], (0 : Int), rfl, h⟩ ?_
  rintro k4156 s ⟨x3323, x3324, x3325, x3326, x3327, x3328, x3329, x3330, x3331, rfl, h⟩
  cases k4156 with
  | zero => cases show none = some r from h
  | succ k4156 =>
   replace h : F53_l2_b N a1 a2 (F53_l2 N a1 a2 k4156) x3323 x3324 x3325 x3326 x3327 x3328 x3329 x3330 x3331 = some r := h
   unfold F53_l2_b at h
   refine sq <| nR K (tn 4) ?_
   refine cnd h ?_ ?_<;>intro h
   ·refine VW.skip ?_
    refine VW.join (fun s => ∃ x4568, s = ⟨[(1, Vv (.sl (.sl (.int .i64))) a1), (2, Vv (.sl (.sl (.int .i64))) a2), (3, .lf (.ptr 0 0 0 0)), (7, hh 1), (8, I x3331)], [bx [zi x3323, zs x3324, zi x3325, zi x3326, zi x3327, zb x3328, .v (.sl (.int .i64)) x3329] 56, ar 0 (.sl (.int .i64)) x4568 .dp]⟩ ∧ F53_j1 N (F53_l2 N a1 a2 k4156) x3323 x3324 x3325 x3326 x3327 x3328 x3329 x3331 x4568 = some r) ?_ ?_
    ·refine VW.block <| nR K (tn 1) <| VW.block <| lop (fun k s => ∃ x4706 x4707, s = ⟨[(1, Vv (.sl (.sl (.int .i64))) a1), (2, Vv (.sl (.sl (.int .i64))) a2), (3, .lf (.ptr 0 0 0 0)), (7, hh 1), (8, I x3331), (9, I x4707)], [bx [zi x3323, zs x3324, zi x3325, zi x3326, zi x3327, zb x3328, .v (.sl (.int .i64)) x3329] 56, ar 0 (.sl (.int .i64)) x4706 .dp]⟩ ∧ F53_l1 N a1 a2 (F53_l2 N a1 a2 k4156) x3323 x3324 x3325 x3326 x3327 x3328 x3329 x3331 k x4706 x4707 = some r) N [.ren [1, 2, 3, 7, 8, 9] [0, 1]] ⟨x3330, (0 : Int), rfl, h⟩ ?_
     rintro k4844 s ⟨x4706, x4707, rfl, h⟩
     cases k4844 with
     | zero => cases show none = some r from h
     | succ k4844 =>
      replace h : F53_l1_b N a1 a2 (F53_l2 N a1 a2 k4156) x3323 x3324 x3325 x3326 x3327 x3328 x3329 x3331 (F53_l1 N a1 a2 (F53_l2 N a1 a2 k4156) x3323 x3324 x3325 x3326 x3327 x3328 x3329 x3331 k4844) x4706 x4707 = some r := h
      unfold F53_l1_b at h
      refine sq <| nR K (tn 4) ?_
      refine cnd h ?_ ?_<;>intro h
      ·refine VW.skip ?_
       refine VW.join (fun s => ∃ x4912, s = ⟨[(1, Vv (.sl (.sl (.int .i64))) a1), (2, Vv (.sl (.sl (.int .i64))) a2), (3, .lf (.ptr 0 0 0 0)), (7, hh 1), (8, I x3331), (9, I x4707)], [bx [zi x3323, zs x3324, zi x3325, zi x3326, zi x3327, zb x3328, .v (.sl (.int .i64)) x3329] 56, ar 0 (.sl (.int .i64)) x4912 .dp]⟩ ∧ F53_j2 N (F53_l1 N a1 a2 (F53_l2 N a1 a2 k4156) x3323 x3324 x3325 x3326 x3327 x3328 x3329 x3331 k4844) x4707 x4912 = some r) ?_ ?_
       ·refine VW.block <| sq ?_
        obtain⟨g4914,h⟩:=gS h
        obtain⟨g4915,h⟩:=gS h
        refine dr K [] [] [] [1, 2, 3, 7, 8, 9, 10] [0, 1] (pu 2 (an g4914 (pu 3 (an g4915 (tn 2))))) trivial <| sq <| sq ?_
        rcases Bool.eq_false_or_eq_true (((a1.getD x3331.toNat (Ty.dflt (.sl (.int .i64)))).getD x3325.toNat (Ty.dflt (.int .i64))) == (-2000000 : Int)) with hb4919 | hb4919
        ·replace h := cond_t h hb4919
         refine dr K [(2, .lit true)] [(2, 0)] [] [1, 2, 3, 7, 8, 9, 47] [0, 1] (tn 14) ⟨qB 36 hb4919 K trivial, trivial⟩ ?_
         refine VW.cond (b := true) (by kernel_rfl) (fun _ => ?_) (fun h' => nomatch h')
         refine VW.exit ?_
         exact arv [.ren [1, 2, 3, 7, 8, 9] [0, 1]] ⟨x4706, rfl, h⟩
        replace h := cond_f h hb4919
        obtain⟨g4920,h⟩:=gS h
        obtain⟨g4921,h⟩:=gS h
        refine dr K [(2, .lit false)] [(2, 0)] [] [1, 2, 3, 7, 8, 9, 47] [0, 1] (pu 6 (an g4920 (pu 3 (an g4921 (tn 3))))) ⟨qB 36 hb4919 K trivial, trivial⟩ ?_
        refine cnd h ?_ ?_<;>intro h
        ·refine VW.exit ?_
         exact arv [.ren [1, 2, 3, 7, 8, 9] [0, 1]] ⟨x4706, rfl, h⟩
        refine VW.skip <| sq <| VW.region ?_
        obtain⟨g4922,h⟩:=gS h
        refine nG K 4 (pu 2 (an g4922 (tn 1))) ?_
        obtain⟨y4923,hy,h⟩:=aS h
        refine clc false [.t (.sl (.int .i64))] [] (some 52) K (ok56 N _ hy) <| nN K (tn 1) ?_
        refine VW.join (fun s => ∃ x4951, s = ⟨[(1, Vv (.sl (.sl (.int .i64))) a1), (2, Vv (.sl (.sl (.int .i64))) a2), (3, .lf (.ptr 0 0 0 0)), (7, hh 1), (8, I x3331), (9, I x4707), (11, hh 2)], [bx [zi x3323, zs x3324, zi x3325, zi x3326, zi x3327, zb x3328, .v (.sl (.int .i64)) x3329] 56, ar 0 (.sl (.int .i64)) x4706 .dp, ar 0 (.int .i64) x4951 .dp]⟩ ∧ F53_j3 N (F53_l1 N a1 a2 (F53_l2 N a1 a2 k4156) x3323 x3324 x3325 x3326 x3327 x3328 x3329 x3331 k4844) x4706 x4707 x4951 = some r) ?_ ?_
        ·refine nR K (tn 1) <| VW.block <| lop (fun k s => ∃ x4962 x4963, s = ⟨[(1, Vv (.sl (.sl (.int .i64))) a1), (2, Vv (.sl (.sl (.int .i64))) a2), (3, .lf (.ptr 0 0 0 0)), (7, hh 1), (8, I x3331), (9, I x4707), (11, hh 2), (12, I x4963)], [bx [zi x3323, zs x3324, zi x3325, zi x3326, zi x3327, zb x3328, .v (.sl (.int .i64)) x3329] 56, ar 0 (.sl (.int .i64)) x4706 .dp, ar 0 (.int .i64) x4962 .dp]⟩ ∧ F53_l0 N a2 (F53_l1 N a1 a2 (F53_l2 N a1 a2 k4156) x3323 x3324 x3325 x3326 x3327 x3328 x3329 x3331 k4844) x4706 x4707 k x4962 x4963 = some r) N [.ren [1, 2, 3, 7, 8, 9, 11, 12] [0, 1, 2]] ⟨y4923, (0 : Int), rfl, h⟩ ?_
         rintro k4972 s ⟨x4962, x4963, rfl, h⟩
         cases k4972 with
         | zero => cases show none = some r from h
         | succ k4972 =>
          replace h : F53_l0_b N a2 (F53_l1 N a1 a2 (F53_l2 N a1 a2 k4156) x3323 x3324 x3325 x3326 x3327 x3328 x3329 x3331 k4844) x4706 x4707 (F53_l0 N a2 (F53_l1 N a1 a2 (F53_l2 N a1 a2 k4156) x3323 x3324 x3325 x3326 x3327 x3328 x3329 x3331 k4844) x4706 x4707 k4972) x4962 x4963 = some r := h
          unfold F53_l0_b at h
          refine sq ?_
          obtain⟨g4974,h⟩:=gS h
          refine nR K (pu 3 (an g4974 (tn 3))) ?_
          refine cnd h ?_ ?_<;>intro h
          ·refine VW.skip <| sq <| VW.block ?_
           obtain⟨g4978,h⟩:=gS h
           obtain⟨g4979,h⟩:=gS h
           obtain⟨g4980,h⟩:=gS h
           refine nE K (pu 3 (an g4978 (pu 2 (an g4979 (pu 2 (an g4980 (tn 1))))))) <| nE K (tn 3) ?_
           exact aro [.ren [1, 2, 3, 7, 8, 9, 11, 12] [0, 1, 2]] ⟨(x4962 ++ ([((a2.getD x4707.toNat (Ty.dflt (.sl (.int .i64)))).getD x4963.toNat (Ty.dflt (.int .i64)))])), (wr (x4963 + (1 : Int))), rfl, h⟩
          refine VW.exit ?_
          exact arv [.ren [1, 2, 3, 7, 8, 9, 11] [0, 1, 2]] ⟨x4962, rfl, h⟩
        rintro s ⟨x4951, rfl, h⟩
        unfold F53_j3 at h
        refine VW.region <| nG K 2 (tn 2) <| VO.litA (d := 74) (v := hh 3) (H' := [bx [zi x3323, zs x3324, zi x3325, zi x3326, zi x3327, zb x3328, .v (.sl (.int .i64)) x3329] 56, ar 0 (.sl (.int .i64)) x4706 .dp, none, ar 0 (.sl (.int .i64)) ([x4951]) .dp]) K (by kernel_rfl) ?_
        obtain⟨g4952,h⟩:=gS h
        refine VO.appM (d := 75) (φ := x4706.length + ([x4951]).length ≤ lim (.sl (.int .i64))) (v := .lf (.hd 1 1 none)) (H' := [bx [zi x3323, zs x3324, zi x3325, zi x3326, zi x3327, zb x3328, .v (.sl (.int .i64)) x3329] 56, ar 1 (.sl (.int .i64)) (x4706 ++ ([x4951])) .dp, none, none]) K (by kernel_rfl) g4952 <| nN K (tn 1) ?_
        exact arv [.ren [1, 2, 3, 7, 8, 9] [0, 1]] ⟨(x4706 ++ ([x4951])), rfl, h⟩
       rintro s ⟨x4912, rfl, h⟩
       unfold F53_j2 at h
       refine nE K (tn 3) ?_
       exact aro [.ren [1, 2, 3, 7, 8, 9] [0, 1]] ⟨x4912, (wr (x4707 + (1 : Int))), rfl, h⟩
      refine VW.exit ?_
      exact arv [.ren [1, 2, 3, 7, 8] [0, 1]] ⟨x4706, rfl, h⟩
    rintro s ⟨x4568, rfl, h⟩
    unfold F53_j1 at h
    refine nE K (tn 3) ?_
    exact aro [.ren [1, 2, 3, 7, 8] [0, 1]] ⟨x3323, x3324, x3325, x3326, x3327, x3328, x3329, x4568, (wr (x3331 + (1 : Int))), rfl, h⟩
   refine VW.exit ?_
   exact arv [.ren [7] [1]] ⟨x3330, rfl, h⟩
 rintro s ⟨x2490, rfl, h⟩
 unfold F53_j0 at h
 refine nR K (tn 2) ?_
 cases h; exact VW.ret (rt [some 0])
def F54_j0 (N : Nat) (x1130 : (List (List Int))) : Option ((List (List Int))) :=
  some x1130
def F54_j1 (N : Nat) (nx1712 : Int → ByteArray → Int → Int → Int → Bool → (List Int) → (List (List Int)) → Int → Option ((List (List Int)))) (x1155 : Int) (x1156 : ByteArray) (x1157 : Int) (x1158 : Int) (x1159 : Int) (x1160 : Bool) (x1161 : (List Int)) (x1163 : Int) (x1986 : (List (List Int))) : Option ((List (List Int))) :=
  nx1712 x1155 x1156 x1157 x1158 x1159 x1160 x1161 x1986 (IntKind.i64.wrap (x1163 + (1 : Int)))
def F54_j2 (N : Nat) (nx1712 : Int → ByteArray → Int → Int → Int → Bool → (List Int) → (List (List Int)) → Int → Option ((List (List Int)))) (x1155 : Int) (x1156 : ByteArray) (x1157 : Int) (x1158 : Int) (x1159 : Int) (x1160 : Bool) (x1161 : (List Int)) (x1163 : Int) (x2124 : (List (List Int))) : Option ((List (List Int))) :=
  F54_j1 N nx1712 x1155 x1156 x1157 x1158 x1159 x1160 x1161 x1163 x2124
def F54_j3 (N : Nat) (a1 : (List (List Int))) (nx1712 : Int → ByteArray → Int → Int → Int → Bool → (List Int) → (List (List Int)) → Int → Option ((List (List Int)))) (x1155 : Int) (x1156 : ByteArray) (x1157 : Int) (x1158 : Int) (x1159 : Int) (x1160 : Bool) (x1161 : (List Int)) (x1163 : Int) (x2120 : (List (List Int))) (x2121 : Bool) : Option ((List (List Int))) :=
  cond (!x2121) (gd (InR x1163 a1.length) (gd (x2120.length + ([(a1.getD x1163.toNat (Ty.dflt (.sl (.int .i64))))]).length ≤ lim (.sl (.int .i64))) (F54_j2 N nx1712 x1155 x1156 x1157 x1158 x1159 x1160 x1161 x1163 (x2120 ++ ([(a1.getD x1163.toNat (Ty.dflt (.sl (.int .i64))))]))))) (F54_j2 N nx1712 x1155 x1156 x1157 x1158 x1159 x1160 x1161 x1163 x2120)
def F54_j4 (N : Nat) (nx2216 : (List (List Int)) → Bool → Int → Option ((List (List Int)))) (x1162 : (List (List Int))) (x2171 : Int) (x2247 : (List (List Int))) (x2248 : Bool) : Option ((List (List Int))) :=
  gd (InR x2171 x1162.length) (gd (x2171.toNat < x1162.length) (gd (x2247.length + ([(x1162.getD x2171.toNat (Ty.dflt (.sl (.int .i64))))]).length ≤ lim (.sl (.int .i64))) (nx2216 (x2247 ++ ([(x1162.getD x2171.toNat (Ty.dflt (.sl (.int .i64))))])) x2248 (IntKind.i64.wrap (x2171 + (1 : Int))))))
def F54_l0_b (N : Nat) (a1 : (List (List Int))) (nx1712 : Int → ByteArray → Int → Int → Int → Bool → (List Int) → (List (List Int)) → Int → Option ((List (List Int)))) (x1155 : Int) (x1156 : ByteArray) (x1157 : Int) (x1158 : Int) (x1159 : Int) (x1160 : Bool) (x1161 : (List Int)) (x1162 : (List (List Int))) (x1163 : Int) (nx2216 : (List (List Int)) → Bool → Int → Option ((List (List Int)))) (x2169 : (List (List Int))) (x2170 : Bool) (x2171 : Int) : Option ((List (List Int))) :=
  cond (decide (x2171 < (x1162.length : Int))) (cond (!x2170) (gd (InR x1163 a1.length) (gd (InR x1157 (a1.getD x1163.toNat (Ty.dflt (.sl (.int .i64)))).length) (gd (InR x2171 x1162.length) (gd (x2171.toNat < x1162.length) (gd (InR x1157 (x1162.getD x2171.toNat (Ty.dflt (.sl (.int .i64)))).length) (cond (decide (((a1.getD x1163.toNat (Ty.dflt (.sl (.int .i64)))).getD x1157.toNat (Ty.dflt (.int .i64))) < ((x1162.getD x2171.toNat (Ty.dflt (.sl (.int .i64)))).getD x1157.toNat (Ty.dflt (.int .i64))))) (gd (InR x1163 a1.length) (gd (x2169.length + ([(a1.getD x1163.toNat (Ty.dflt (.sl (.int .i64))))]).length ≤ lim (.sl (.int .i64))) (F54_j4 N nx2216 x1162 x2171 (x2169 ++ ([(a1.getD x1163.toNat (Ty.dflt (.sl (.int .i64))))])) true))) (F54_j4 N nx2216 x1162 x2171 x2169 x2170))))))) (F54_j4 N nx2216 x1162 x2171 x2169 x2170)) (F54_j3 N a1 nx1712 x1155 x1156 x1157 x1158 x1159 x1160 x1161 x1163 x2169 x2170)
def F54_l0 (N : Nat) (a1 : (List (List Int))) (nx1712 : Int → ByteArray → Int → Int → Int → Bool → (List Int) → (List (List Int)) → Int → Option ((List (List Int)))) (x1155 : Int) (x1156 : ByteArray) (x1157 : Int) (x1158 : Int) (x1159 : Int) (x1160 : Bool) (x1161 : (List Int)) (x1162 : (List (List Int))) (x1163 : Int) := loopF (F54_l0_b N a1 nx1712 x1155 x1156 x1157 x1158 x1159 x1160 x1161 x1162 x1163) (fun _ _ _ => none)
theorem F54_l0_s N a1 nx1712 x1155 x1156 x1157 x1158 x1159 x1160 x1161 x1162 x1163 {k} (hk : 0 < k) x2169 x2170 x2171 : F54_l0 N a1 nx1712 x1155 x1156 x1157 x1158 x1159 x1160 x1161 x1162 x1163 k x2169 x2170 x2171 = F54_l0_b N a1 nx1712 x1155 x1156 x1157 x1158 x1159 x1160 x1161 x1162 x1163 (F54_l0 N a1 nx1712 x1155 x1156 x1157 x1158 x1159 x1160 x1161 x1162 x1163 (k - 1)) x2169 x2170 x2171 := by cases k;cases hk;rfl
def F54_l1_b (N : Nat) (a1 : (List (List Int))) (nx1712 : Int → ByteArray → Int → Int → Int → Bool → (List Int) → (List (List Int)) → Int → Option ((List (List Int)))) (x1155 : Int) (x1156 : ByteArray) (x1157 : Int) (x1158 : Int) (x1159 : Int) (x1160 : Bool) (x1161 : (List Int)) (x1162 : (List (List Int))) (x1163 : Int) : Option ((List (List Int))) :=
  cond (decide (x1163 < (a1.length : Int))) (F54_l0 N a1 nx1712 x1155 x1156 x1157 x1158 x1159 x1160 x1161 x1162 x1163 N ([]) false (0 : Int)) (F54_j0 N x1162)
def F54_l1 (N : Nat) (a1 : (List (List Int))) := loopF (F54_l1_b N a1) (fun _ _ _ _ _ _ _ _ _ => none)
theorem F54_l1_s N a1 {k} (hk : 0 < k) x1155 x1156 x1157 x1158 x1159 x1160 x1161 x1162 x1163 : F54_l1 N a1 k x1155 x1156 x1157 x1158 x1159 x1160 x1161 x1162 x1163 = F54_l1_b N a1 (F54_l1 N a1 (k - 1)) x1155 x1156 x1157 x1158 x1159 x1160 x1161 x1162 x1163 := by cases k;cases hk;rfl
def F54 (N : Nat) (a0 : Z52) (a1 : (List (List Int))) : Option ((List (List Int))) :=
  F54_l1 N a1 N a0.1 a0.2.1 a0.2.2.1 a0.2.2.2.1 a0.2.2.2.2.1 a0.2.2.2.2.2.1 a0.2.2.2.2.2.2 ([]) (0 : Int)
theorem ok54 N a0 a1 {r} (h : F54 N a0 a1 = some r) : Con prog 54 [.agg (lv Y52 a0), Vv (.sl (.sl (.int .i64))) a1] [.lf (.own (.sl (.int .i64)) r .tp)] := by
 refine ctr [.lf (.own (.sl (.int .i64)) .tp)] K func54 rfl fun w0 E0 ht => ?_
 unfold F54 at h
 show VW _ _ _ _ _ (retQ _ _ _ _) _
 refine nR K (tn 2) <| nR K (tn 2) ?_
 refine VW.join (fun s => ∃ x1130, s = ⟨[(5, hh 0)], [ar 0 (.sl (.int .i64)) x1130 .tp]⟩ ∧ F54_j0 N x1130 = some r) ?_ ?_
 ·refine nR K (tn 1) <| VW.block <| lop (fun k s => ∃ x1155 x1156 x1157 x1158 x1159 x1160 x1161 x1162 x1163, s = ⟨[(1, Vv (.sl (.sl (.int .i64))) a1), (2, .lf (.ptr 0 0 0 0)), (5, hh 1), (6, I x1163)], [bx [zi x1155, zs x1156, zi x1157, zi x1158, zi x1159, zb x1160, .v (.sl (.int .i64)) x1161] 56, ar 0 (.sl (.int .i64)) x1162 .tp]⟩ ∧ F54_l1 N a1 k x1155 x1156 x1157 x1158 x1159 x1160 x1161 x1162 x1163 = some r) N [.nilS 5 (.sl (.int .i64)) .tp, .ren [1, 2, 5, 6] [0, 1]] ⟨a0.1, a0.2.1, a0.2.2.1, a0.2.2.2.1, a0.2.2.2.2.1, a0.2.2.2.2.2.1, a0.2.2.2.2.2.2, [], (0 : Int), rfl, h⟩ ?_
  rintro k1712 s ⟨x1155, x1156, x1157, x1158, x1159, x1160, x1161, x1162, x1163, rfl, h⟩
  cases k1712 with
  | zero => cases show none = some r from h
  | succ k1712 =>
   replace h : F54_l1_b N a1 (F54_l1 N a1 k1712) x1155 x1156 x1157 x1158 x1159 x1160 x1161 x1162 x1163 = some r := h
   unfold F54_l1_b at h
   refine sq <| nR K (tn 4) ?_
   refine cnd h ?_ ?_<;>intro h
   ·refine VW.skip ?_
    refine VW.join (fun s => ∃ x1986, s = ⟨[(1, Vv (.sl (.sl (.int .i64))) a1), (2, .lf (.ptr 0 0 0 0)), (5, hh 1), (6, I x1163)], [bx [zi x1155, zs x1156, zi x1157, zi x1158, zi x1159, zb x1160, .v (.sl (.int .i64)) x1161] 56, ar 0 (.sl (.int .i64)) x1986 .tp]⟩ ∧ F54_j1 N (F54_l1 N a1 k1712) x1155 x1156 x1157 x1158 x1159 x1160 x1161 x1163 x1986 = some r) ?_ ?_
    ·refine VW.block <| nR K (tn 2) <| nR K (tn 1) ?_
     refine VW.join (fun s => ∃ x2120 x2121, s = ⟨[(1, Vv (.sl (.sl (.int .i64))) a1), (2, .lf (.ptr 0 0 0 0)), (6, I x1163), (7, hh 1), (8, B x2121)], [bx [zi x1155, zs x1156, zi x1157, zi x1158, zi x1159, zb x1160, .v (.sl (.int .i64)) x1161] 56, ar 0 (.sl (.int .i64)) x2120 .tp]⟩ ∧ F54_j3 N a1 (F54_l1 N a1 k1712) x1155 x1156 x1157 x1158 x1159 x1160 x1161 x1163 x2120 x2121 = some r) ?_ ?_
     ·refine nR K (tn 1) <| VW.block <| lop (fun k s => ∃ x2169 x2170 x2171, s = ⟨[(1, Vv (.sl (.sl (.int .i64))) a1), (2, .lf (.ptr 0 0 0 0)), (5, hh 1), (6, I x1163), (7, hh 2), (8, B x2170), (9, I x2171)], [bx [zi x1155, zs x1156, zi x1157, zi x1158, zi x1159, zb x1160, .v (.sl (.int .i64)) x1161] 56, ar 0 (.sl (.int .i64)) x1162 .tp, ar 0 (.sl (.int .i64)) x2169 .tp]⟩ ∧ F54_l0 N a1 (F54_l1 N a1 k1712) x1155 x1156 x1157 x1158 x1159 x1160 x1161 x1162 x1163 k x2169 x2170 x2171 = some r) N [.nilS 7 (.sl (.int .i64)) .tp, .ren [1, 2, 5, 6, 7, 8, 9] [0, 1, 2]] ⟨[], false, (0 : Int), rfl, h⟩ ?_
      rintro k2216 s ⟨x2169, x2170, x2171, rfl, h⟩
      cases k2216 with
      | zero => cases show none = some r from h
      | succ k2216 =>
       replace h : F54_l0_b N a1 (F54_l1 N a1 k1712) x1155 x1156 x1157 x1158 x1159 x1160 x1161 x1162 x1163 (F54_l0 N a1 (F54_l1 N a1 k1712) x1155 x1156 x1157 x1158 x1159 x1160 x1161 x1162 x1163 k2216) x2169 x2170 x2171 = some r := h
       unfold F54_l0_b at h
       refine sq <| nR K (tn 4) ?_
       refine cnd h ?_ ?_<;>intro h
       ·refine VW.skip <| sq <| VW.block ?_
        refine VW.join (fun s => ∃ x2247 x2248, s = ⟨[(1, Vv (.sl (.sl (.int .i64))) a1), (2, .lf (.ptr 0 0 0 0)), (5, hh 1), (6, I x1163), (7, hh 2), (8, B x2248), (9, I x2171)], [bx [zi x1155, zs x1156, zi x1157, zi x1158, zi x1159, zb x1160, .v (.sl (.int .i64)) x1161] 56, ar 0 (.sl (.int .i64)) x1162 .tp, ar 0 (.sl (.int .i64)) x2247 .tp]⟩ ∧ F54_j4 N (F54_l0 N a1 (F54_l1 N a1 k1712) x1155 x1156 x1157 x1158 x1159 x1160 x1161 x1162 x1163 k2216) x1162 x2171 x2247 x2248 = some r) ?_ ?_
        ·refine sq ?_
         rcases Bool.eq_false_or_eq_true (!x2170) with hb2253 | hb2253
         ·replace h := cond_t h hb2253
          obtain⟨g2254,h⟩:=gS h
          obtain⟨g2255,h⟩:=gS h
          obtain⟨g2256,h⟩:=gS h
          obtain⟨g2257,h⟩:=gS h
          obtain⟨g2258,h⟩:=gS h
          refine dr K [(2, .lit true)] [(2, 0)] [] [1, 2, 5, 6, 7, 8, 9, 44] [0, 1, 2] (pu 5 (an g2254 (pu 3 (an g2255 (pu 3 (an g2256 (an g2257 (pu 2 (an g2258 (tn 3)))))))))) ⟨qB 26 hb2253 K trivial, trivial⟩ ?_
          refine cnd h ?_ ?_<;>intro h
          ·obtain⟨g2259,h⟩:=gS h
           obtain⟨g2260,h⟩:=gS h
           refine nR K (pu 3 (an g2259 (pu 2 (an g2260 (tn 1))))) <| nE K (tn 1) ?_
           exact arv [.ren [1, 2, 5, 6, 7, 8, 9] [0, 1, 2]] ⟨(x2169 ++ ([(a1.getD x1163.toNat (Ty.dflt (.sl (.int .i64))))])), true, rfl, h⟩
          refine VW.skip ?_
          exact arv [.ren [1, 2, 5, 6, 7, 8, 9] [0, 1, 2]] ⟨x2169, x2170, rfl, h⟩
         replace h := cond_f h hb2253
         refine dr K [(2, .lit false)] [(2, 0)] [] [1, 2, 5, 6, 7, 8, 9, 44] [0, 1, 2] (tn 21) ⟨qB 26 hb2253 K trivial, trivial⟩ ?_
         refine VW.cond (b := false) (by kernel_rfl) (fun h' => nomatch h') (fun _ => ?_)
         refine VW.skip ?_
         exact arv [.ren [1, 2, 5, 6, 7, 8, 9] [0, 1, 2]] ⟨x2169, x2170, rfl, h⟩
        rintro s ⟨x2247, x2248, rfl, h⟩
        unfold F54_j4 at h
        obtain⟨g2249,h⟩:=gS h
        obtain⟨g2250,h⟩:=gS h
        obtain⟨g2251,h⟩:=gS h
        refine nE K (pu 3 (an g2249 (an g2250 (pu 1 (an g2251 (tn 1)))))) <| nE K (tn 3) ?_
        exact aro [.ren [1, 2, 5, 6, 7, 8, 9] [0, 1, 2]] ⟨(x2247 ++ ([(x1162.getD x2171.toNat (Ty.dflt (.sl (.int .i64))))])), x2248, (wr (x2171 + (1 : Int))), rfl, h⟩
       refine VW.exit ?_
       exact arv [.ren [1, 2, 6, 7, 8] [0, 2]] ⟨x2169, x2170, rfl, h⟩
     rintro s ⟨x2120, x2121, rfl, h⟩
     unfold F54_j3 at h
     refine VW.join (fun s => ∃ x2124, s = ⟨[(1, Vv (.sl (.sl (.int .i64))) a1), (2, .lf (.ptr 0 0 0 0)), (6, I x1163), (7, hh 1)], [bx [zi x1155, zs x1156, zi x1157, zi x1158, zi x1159, zb x1160, .v (.sl (.int .i64)) x1161] 56, ar 0 (.sl (.int .i64)) x2124 .tp]⟩ ∧ F54_j2 N (F54_l1 N a1 k1712) x1155 x1156 x1157 x1158 x1159 x1160 x1161 x1163 x2124 = some r) ?_ ?_
     ·refine nR K (tn 2) ?_
      refine cnd h ?_ ?_<;>intro h
      ·obtain⟨g2126,h⟩:=gS h
       obtain⟨g2127,h⟩:=gS h
       refine nE K (pu 3 (an g2126 (pu 2 (an g2127 (tn 1))))) ?_
       exact arv [.ren [1, 2, 6, 7] [0, 1]] ⟨(x2120 ++ ([(a1.getD x1163.toNat (Ty.dflt (.sl (.int .i64))))])), rfl, h⟩
      refine VW.skip ?_
      exact arv [.ren [1, 2, 6, 7] [0, 1]] ⟨x2120, rfl, h⟩
     rintro s ⟨x2124, rfl, h⟩
     unfold F54_j2 at h
     refine nE K (tn 2) ?_
     exact arv [.ren [1, 2, 5, 6] [0, 1]] ⟨x2124, rfl, h⟩
    rintro s ⟨x1986, rfl, h⟩
    unfold F54_j1 at h
    refine nE K (tn 3) ?_
    exact aro [.ren [1, 2, 5, 6] [0, 1]] ⟨x1155, x1156, x1157, x1158, x1159, x1160, x1161, x1986, (wr (x1163 + (1 : Int))), rfl, h⟩
   refine VW.exit ?_
   exact arv [.ren [5] [1]] ⟨x1162, rfl, h⟩
 rintro s ⟨x1130, rfl, h⟩
 unfold F54_j0 at h
 refine nR K (tn 2) ?_
 cases h; exact VW.ret (rt [some 0])
def F103_j0 (N : Nat) : Option (Bool) :=
  some true
def F103_l0_b (N : Nat) (a0 : (List Int)) (a1 : (List Int)) (nx25 : Int → Option (Bool)) (x20 : Int) : Option (Bool) :=
  cond (decide (x20 < (a0.length : Int))) (gd (InR x20 a0.length) (gd (InR x20 a1.length) (cond ((a0.getD x20.toNat (Ty.dflt (.int .i64))) != (a1.getD x20.toNat (Ty.dflt (.int .i64)))) (some false) (nx25 (IntKind.i64.wrap (x20 + (1 : Int))))))) (F103_j0 N)
def F103_l0 (N : Nat) (a0 : (List Int)) (a1 : (List Int)) := loopF (F103_l0_b N a0 a1) (fun _ => none)
theorem F103_l0_s N a0 a1 {k} (hk : 0 < k) x20 : F103_l0 N a0 a1 k x20 = F103_l0_b N a0 a1 (F103_l0 N a0 a1 (k - 1)) x20 := by cases k;cases hk;rfl
def F103 (N : Nat) (a0 : (List Int)) (a1 : (List Int)) : Option (Bool) :=
  cond ((a0.length : Int) != (a1.length : Int)) (some false) (F103_l0 N a0 a1 N (0 : Int))
theorem ok103 N a0 a1 {r} (h : F103 N a0 a1 = some r) : Con prog 103 [Vv (.sl (.int .i64)) a0, Vv (.sl (.int .i64)) a1] [.lf (.v .bool r)] := by
 refine ctr [.lf (.v .bool)] K func103 rfl fun w0 E0 ht => ?_
 unfold F103 at h
 show VW _ _ _ _ _ (retQ _ _ _ _) _
 refine nR K (tn 1) <| sq <| nR K (tn 5) ?_
 refine cnd h ?_ ?_<;>intro h
 ·refine nR K (tn 1) ?_
  cases h; exact VW.ret (rt [])
 refine VW.skip ?_
 refine VW.join (fun s => s = ⟨[], []⟩ ∧ F103_j0 N = some r) ?_ ?_
 ·refine nR K (tn 1) <| VW.block <| lop (fun k s => ∃ x20, s = ⟨[(0, Vv (.sl (.int .i64)) a0), (1, Vv (.sl (.int .i64)) a1), (5, I x20)], []⟩ ∧ F103_l0 N a0 a1 k x20 = some r) N [.ren [0, 1, 5] []] ⟨(0 : Int), rfl, h⟩ ?_
  rintro k25 s ⟨x20, rfl, h⟩
  cases k25 with
  | zero => cases show none = some r from h
  | succ k25 =>
   replace h : F103_l0_b N a0 a1 (F103_l0 N a0 a1 k25) x20 = some r := h
   unfold F103_l0_b at h
   refine sq <| nR K (tn 4) ?_
   refine cnd h ?_ ?_<;>intro h
   ·refine VW.skip <| sq <| VW.block <| sq ?_
    obtain⟨g28,h⟩:=gS h
    obtain⟨g29,h⟩:=gS h
    refine dr K [] [] [] [0, 1, 5, 25] [] (pu 2 (an g28 (pu 3 (an g29 (tn 2))))) trivial ?_
    refine cnd h ?_ ?_<;>intro h
    ·refine nR K (tn 1) ?_
     cases h; exact VW.ret (rt [])
    refine VW.skip <| nE K (tn 3) ?_
    exact aro [.ren [0, 1, 5] []] ⟨(wr (x20 + (1 : Int))), rfl, h⟩
   refine VW.exit ?_
   exact arv [.ren [] []] ⟨rfl, h⟩
 rintro s ⟨rfl, h⟩
 unfold F103_j0 at h
 refine nR K (tn 1) ?_
 cases h; exact VW.ret (rt [])
def F85_j0 (N : Nat) (x22 : Int) : Option (Int) :=
  some x22
def F85_j1 (N : Nat) (nx38 : Int → Int → Option (Int)) (x31 : Int) (x41 : Int) : Option (Int) :=
  nx38 x41 (IntKind.i64.wrap (x31 + (1 : Int)))
def F85_l0_b (N : Nat) (a0 : (List (List Int))) (a1 : (List Int)) (nx38 : Int → Int → Option (Int)) (x30 : Int) (x31 : Int) : Option (Int) :=
  cond (decide (x31 < (a0.length : Int))) (gd (InR x31 a0.length) (andO (F103 N (a0.getD x31.toNat (Ty.dflt (.sl (.int .i64)))) a1) fun y44 => cond y44 (F85_j1 N nx38 x31 (IntKind.i64.wrap (x30 + (1 : Int)))) (F85_j1 N nx38 x31 x30))) (F85_j0 N x30)
def F85_l0 (N : Nat) (a0 : (List (List Int))) (a1 : (List Int)) := loopF (F85_l0_b N a0 a1) (fun _ _ => none)
theorem F85_l0_s N a0 a1 {k} (hk : 0 < k) x30 x31 : F85_l0 N a0 a1 k x30 x31 = F85_l0_b N a0 a1 (F85_l0 N a0 a1 (k - 1)) x30 x31 := by cases k;cases hk;rfl
def F85 (N : Nat) (a0 : (List (List Int))) (a1 : (List Int)) : Option (Int) :=
  F85_l0 N a0 a1 N (0 : Int) (0 : Int)
theorem ok85 N a0 a1 {r} (h : F85 N a0 a1 = some r) : Con prog 85 [Vv (.sl (.sl (.int .i64))) a0, Vv (.sl (.int .i64)) a1] [.lf (.v (.int .i64) r)] := by
 refine ctr [.lf (.v (.int .i64))] K func85 rfl fun w0 E0 ht => ?_
 unfold F85 at h
 show VW _ _ _ _ _ (retQ _ _ _ _) _
 refine nR K (tn 1) <| nR K (tn 1) ?_
 refine VW.join (fun s => ∃ x22, s = ⟨[(5, I x22)], []⟩ ∧ F85_j0 N x22 = some r) ?_ ?_
 ·refine nR K (tn 1) <| VW.block <| lop (fun k s => ∃ x30 x31, s = ⟨[(0, Vv (.sl (.sl (.int .i64))) a0), (1, Vv (.sl (.int .i64)) a1), (5, I x30), (6, I x31)], []⟩ ∧ F85_l0 N a0 a1 k x30 x31 = some r) N [.ren [0, 1, 5, 6] []] ⟨(0 : Int), (0 : Int), rfl, h⟩ ?_
  rintro k38 s ⟨x30, x31, rfl, h⟩
  cases k38 with
  | zero => cases show none = some r from h
  | succ k38 =>
   replace h : F85_l0_b N a0 a1 (F85_l0 N a0 a1 k38) x30 x31 = some r := h
   unfold F85_l0_b at h
   refine sq <| nR K (tn 4) ?_
   refine cnd h ?_ ?_<;>intro h
   ·refine VW.skip ?_
    refine VW.join (fun s => ∃ x41, s = ⟨[(0, Vv (.sl (.sl (.int .i64))) a0), (1, Vv (.sl (.int .i64)) a1), (5, I x41), (6, I x31)], []⟩ ∧ F85_j1 N (F85_l0 N a0 a1 k38) x31 x41 = some r) ?_ ?_
    ·refine VW.block <| sq <| VW.region ?_
     obtain⟨g43,h⟩:=gS h
     refine nG K 5 (pu 2 (an g43 (tn 2))) ?_
     obtain⟨y44,hy,h⟩:=aS h
     refine clc false [.t (.sl (.int .i64)), .t (.sl (.int .i64))] [] (some 18) K (ok103 N _ _ hy) <| nN K (tn 0) ?_
     refine cnd h ?_ ?_<;>intro h
     ·refine nE K (tn 3) ?_
      exact arv [.ren [0, 1, 5, 6] []] ⟨(wr (x30 + (1 : Int))), rfl, h⟩
     refine VW.skip ?_
     exact arv [.ren [0, 1, 5, 6] []] ⟨x30, rfl, h⟩
    rintro s ⟨x41, rfl, h⟩
    unfold F85_j1 at h
    refine nE K (tn 3) ?_
    exact aro [.ren [0, 1, 5, 6] []] ⟨x41, (wr (x31 + (1 : Int))), rfl, h⟩
   refine VW.exit ?_
   exact arv [.ren [5] []] ⟨x30, rfl, h⟩
 rintro s ⟨x22, rfl, h⟩
 unfold F85_j0 at h
 refine nR K (tn 2) ?_
 cases h; exact VW.ret (rt [])
def F55_j0 (N : Nat) (x34 : (List (List Int))) : Option ((List (List Int))) :=
  some x34
def F55_j1 (N : Nat) (nx58 : (List (List Int)) → Int → Option ((List (List Int)))) (x47 : Int) (x63 : (List (List Int))) : Option ((List (List Int))) :=
  nx58 x63 (IntKind.i64.wrap (x47 + (1 : Int)))
def F55_l0_b (N : Nat) (a0 : (List (List Int))) (nx58 : (List (List Int)) → Int → Option ((List (List Int)))) (x46 : (List (List Int))) (x47 : Int) : Option ((List (List Int))) :=
  cond (decide (x47 < (a0.length : Int))) (gd (InR x47 a0.length) (andO (F85 N x46 (a0.getD x47.toNat (Ty.dflt (.sl (.int .i64))))) fun y66 => cond (y66 == (0 : Int)) (gd (InR x47 a0.length) (gd (x46.length + ([(a0.getD x47.toNat (Ty.dflt (.sl (.int .i64))))]).length ≤ lim (.sl (.int .i64))) (F55_j1 N nx58 x47 (x46 ++ ([(a0.getD x47.toNat (Ty.dflt (.sl (.int .i64))))]))))) (F55_j1 N nx58 x47 x46))) (F55_j0 N x46)
def F55_l0 (N : Nat) (a0 : (List (List Int))) := loopF (F55_l0_b N a0) (fun _ _ => none)
theorem F55_l0_s N a0 {k} (hk : 0 < k) x46 x47 : F55_l0 N a0 k x46 x47 = F55_l0_b N a0 (F55_l0 N a0 (k - 1)) x46 x47 := by cases k;cases hk;rfl
def F55 (N : Nat) (a0 : (List (List Int))) : Option ((List (List Int))) :=
  F55_l0 N a0 N ([]) (0 : Int)
theorem ok55 N a0 {r} (h : F55 N a0 = some r) : Con prog 55 [Vv (.sl (.sl (.int .i64))) a0] [.lf (.own (.sl (.int .i64)) r .tp)] := by
 refine ctr [.lf (.own (.sl (.int .i64)) .tp)] K func55 rfl fun w0 E0 ht => ?_
 unfold F55 at h
 show VW _ _ _ _ _ (retQ _ _ _ _) _
 refine nR K (tn 1) <| nR K (tn 2) ?_
 refine VW.join (fun s => ∃ x34, s = ⟨[(3, hh 0)], [ar 0 (.sl (.int .i64)) x34 .tp]⟩ ∧ F55_j0 N x34 = some r) ?_ ?_
 ·refine nR K (tn 1) <| VW.block <| lop (fun k s => ∃ x46 x47, s = ⟨[(0, Vv (.sl (.sl (.int .i64))) a0), (3, hh 0), (4, I x47)], [ar 0 (.sl (.int .i64)) x46 .tp]⟩ ∧ F55_l0 N a0 k x46 x47 = some r) N [.nilS 3 (.sl (.int .i64)) .tp, .ren [0, 3, 4] [0]] ⟨[], (0 : Int), rfl, h⟩ ?_
  rintro k58 s ⟨x46, x47, rfl, h⟩
  cases k58 with
  | zero => cases show none = some r from h
  | succ k58 =>
   replace h : F55_l0_b N a0 (F55_l0 N a0 k58) x46 x47 = some r := h
   unfold F55_l0_b at h
   refine sq <| nR K (tn 4) ?_
   refine cnd h ?_ ?_<;>intro h
   ·refine VW.skip ?_
    refine VW.join (fun s => ∃ x63, s = ⟨[(0, Vv (.sl (.sl (.int .i64))) a0), (3, hh 0), (4, I x47)], [ar 0 (.sl (.int .i64)) x63 .tp]⟩ ∧ F55_j1 N (F55_l0 N a0 k58) x47 x63 = some r) ?_ ?_
    ·refine VW.block <| sq <| VW.region ?_
     obtain⟨g65,h⟩:=gS h
     refine nG K 5 (pu 3 (an g65 (tn 1))) ?_
     obtain⟨y66,hy,h⟩:=aS h
     refine clc true [.t (.sl (.sl (.int .i64))), .t (.sl (.int .i64))] [] (some 17) K (ok85 N _ _ hy) <| nN K (tn 1) ?_
     refine cnd h ?_ ?_<;>intro h
     ·obtain⟨g67,h⟩:=gS h
      obtain⟨g68,h⟩:=gS h
      refine nE K (pu 3 (an g67 (pu 2 (an g68 (tn 1))))) ?_
      exact arv [.ren [0, 3, 4] [0]] ⟨(x46 ++ ([(a0.getD x47.toNat (Ty.dflt (.sl (.int .i64))))])), rfl, h⟩
     refine VW.skip ?_
     exact arv [.ren [0, 3, 4] [0]] ⟨x46, rfl, h⟩
    rintro s ⟨x63, rfl, h⟩
    unfold F55_j1 at h
    refine nE K (tn 3) ?_
    exact aro [.ren [0, 3, 4] [0]] ⟨x63, (wr (x47 + (1 : Int))), rfl, h⟩
   refine VW.exit ?_
   exact arv [.ren [3] [0]] ⟨x46, rfl, h⟩
 rintro s ⟨x34, rfl, h⟩
 unfold F55_j0 at h
 refine nR K (tn 2) ?_
 cases h; exact VW.ret (rt [some 0])
def F32_j0 (N : Nat) (x317 : (List (List Int))) : Option ((List (List Int)) × Bool) :=
  some (x317, (decide ((x317.length : Int) ≤ (200 : Int))))
def F32_j1 (N : Nat) (nx494 : (List (List Int)) → Int → Option ((List (List Int)) × Bool)) (x413 : Int) (x534 : (List (List Int))) : Option ((List (List Int)) × Bool) :=
  nx494 x534 (IntKind.i64.wrap (x413 + (1 : Int)))
def F32_l0_b (N : Nat) (nx494 : (List (List Int)) → Int → Option ((List (List Int)) × Bool)) (x51 : (List (List (List Int)))) (x413 : Int) (nx562 : (List (List Int)) → Int → Option ((List (List Int)) × Bool)) (x548 : (List (List Int))) (x549 : Int) : Option ((List (List Int)) × Bool) :=
  gd (InR x413 x51.length) (gd (x413.toNat < x51.length) (cond (decide (x549 < ((x51.getD x413.toNat (Ty.dflt (.sl (.sl (.int .i64))))).length : Int))) (gd (InR x413 x51.length) (gd (x413.toNat < x51.length) (gd (InR x549 (x51.getD x413.toNat (Ty.dflt (.sl (.sl (.int .i64))))).length) (gd (x548.length + ([((x51.getD x413.toNat (Ty.dflt (.sl (.sl (.int .i64))))).getD x549.toNat (Ty.dflt (.sl (.int .i64))))]).length ≤ lim (.sl (.int .i64))) (nx562 (x548 ++ ([((x51.getD x413.toNat (Ty.dflt (.sl (.sl (.int .i64))))).getD x549.toNat (Ty.dflt (.sl (.int .i64))))])) (IntKind.i64.wrap (x549 + (1 : Int)))))))) (F32_j1 N nx494 x413 x548)))
def F32_l0 (N : Nat) (nx494 : (List (List Int)) → Int → Option ((List (List Int)) × Bool)) (x51 : (List (List (List Int)))) (x413 : Int) := loopF (F32_l0_b N nx494 x51 x413) (fun _ _ => none)
theorem F32_l0_s N nx494 x51 x413 {k} (hk : 0 < k) x548 x549 : F32_l0 N nx494 x51 x413 k x548 x549 = F32_l0_b N nx494 x51 x413 (F32_l0 N nx494 x51 x413 (k - 1)) x548 x549 := by cases k;cases hk;rfl
def F32_l1_b (N : Nat) (x51 : (List (List (List Int)))) (nx494 : (List (List Int)) → Int → Option ((List (List Int)) × Bool)) (x412 : (List (List Int))) (x413 : Int) : Option ((List (List Int)) × Bool) :=
  cond (decide (x413 < (2 : Int))) (F32_l0 N nx494 x51 x413 N x412 (0 : Int)) (F32_j0 N x412)
def F32_l1 (N : Nat) (x51 : (List (List (List Int)))) := loopF (F32_l1_b N x51) (fun _ _ => none)
theorem F32_l1_s N x51 {k} (hk : 0 < k) x412 x413 : F32_l1 N x51 k x412 x413 = F32_l1_b N x51 (F32_l1 N x51 (k - 1)) x412 x413 := by cases k;cases hk;rfl
def F32_j2 (N : Nat) (a0 : (List Z49)) (a1 : (List (List (List Int)))) (x44 : Int) (x45 : ByteArray) (x46 : Int) (x47 : Int) (x48 : Int) (x49 : Bool) (x50 : (List Int)) (x51 : (List (List (List Int)))) : Option ((List (List Int)) × Bool) :=
  cond (x44 == (0 : Int)) (andO (F50 N a0 x45) fun y319 => gd (InR y319 a1.length) (F32_j0 N (a1.getD y319.toNat (Ty.dflt (.sl (.sl (.int .i64))))))) (cond (x44 == (1 : Int)) (gd (InR (0 : Int) x51.length) (gd ((0 : Int).toNat < x51.length) (andO (F51 N (x44, (x45, (x46, (x47, (x48, (x49, x50)))))) (x51.getD ((0 : Int).toNat) (Ty.dflt (.sl (.sl (.int .i64)))))) fun y323 => F32_j0 N y323))) (cond (x44 == (2 : Int)) (gd (InR (0 : Int) x51.length) (gd ((0 : Int).toNat < x51.length) (andO (F52 N (x44, (x45, (x46, (x47, (x48, (x49, x50)))))) (x51.getD ((0 : Int).toNat) (Ty.dflt (.sl (.sl (.int .i64)))))) fun y326 => F32_j0 N y326))) (cond (x44 == (3 : Int)) (gd (InR (0 : Int) x51.length) (gd ((0 : Int).toNat < x51.length) (gd (InR (1 : Int) x51.length) (gd ((1 : Int).toNat < x51.length) (andO (F53 N (x44, (x45, (x46, (x47, (x48, (x49, x50)))))) (x51.getD ((0 : Int).toNat) (Ty.dflt (.sl (.sl (.int .i64))))) (x51.getD ((1 : Int).toNat) (Ty.dflt (.sl (.sl (.int .i64)))))) fun y331 => F32_j0 N y331))))) (cond (x44 == (4 : Int)) (F32_l1 N x51 N ([]) (0 : Int)) (cond (x44 == (5 : Int)) (gd (InR (0 : Int) x51.length) (gd ((0 : Int).toNat < x51.length) (andO (F54 N (x44, (x45, (x46, (x47, (x48, (x49, x50)))))) (x51.getD ((0 : Int).toNat) (Ty.dflt (.sl (.sl (.int .i64)))))) fun y577 => F32_j0 N y577))) (cond (x44 == (6 : Int)) (gd (InR (0 : Int) x51.length) (gd ((0 : Int).toNat < x51.length) (cond (decide (x48 < ((x51.getD ((0 : Int).toNat) (Ty.dflt (.sl (.sl (.int .i64))))).length : Int))) (gd (0 ≤ x48 ∧ x48 ≤ ((x51.getD ((0 : Int).toNat) (Ty.dflt (.sl (.sl (.int .i64))))).length : Int)) (F32_j0 N ((x51.getD ((0 : Int).toNat) (Ty.dflt (.sl (.sl (.int .i64))))).take x48.toNat))) (F32_j0 N (x51.getD ((0 : Int).toNat) (Ty.dflt (.sl (.sl (.int .i64))))))))) (cond (x44 == (7 : Int)) (gd (InR (0 : Int) x51.length) (gd ((0 : Int).toNat < x51.length) (andO (F55 N (x51.getD ((0 : Int).toNat) (Ty.dflt (.sl (.sl (.int .i64)))))) fun y583 => F32_j0 N y583))) (F32_j0 N ([])))))))))
def F32_l2_b (N : Nat) (a0 : (List Z49)) (a1 : (List (List (List Int)))) (a2 : (List Z52)) (self : (List Z49) → (List (List (List Int))) → (List Z52) → Int → Option ((List (List Int)) × Bool)) (y2 : (List Int)) (nx617 : Int → ByteArray → Int → Int → Int → Bool → (List Int) → (List (List (List Int))) → Int → Option ((List (List Int)) × Bool)) (x600 : Int) (x601 : ByteArray) (x602 : Int) (x603 : Int) (x604 : Int) (x605 : Bool) (x606 : (List Int)) (x607 : (List (List (List Int)))) (x608 : Int) : Option ((List (List Int)) × Bool) :=
  cond (decide (x608 < (y2.length : Int))) (gd (InR x608 y2.length) (gd (x608.toNat < y2.length) (andO (self a0 a1 a2 (y2.getD x608.toNat (Ty.dflt (.int .i64)))) fun y624 => cond (!y624.2) (some ([], false)) (gd (x607.length + ([y624.1]).length ≤ lim (.sl (.sl (.int .i64)))) (nx617 x600 x601 x602 x603 x604 x605 x606 (x607 ++ ([y624.1])) (IntKind.i64.wrap (x608 + (1 : Int)))))))) (F32_j2 N a0 a1 x600 x601 x602 x603 x604 x605 x606 x607)
def F32_l2 (N : Nat) (a0 : (List Z49)) (a1 : (List (List (List Int)))) (a2 : (List Z52)) (self : (List Z49) → (List (List (List Int))) → (List Z52) → Int → Option ((List (List Int)) × Bool)) (y2 : (List Int)) := loopF (F32_l2_b N a0 a1 a2 self y2) (fun _ _ _ _ _ _ _ _ _ => none)
theorem F32_l2_s N a0 a1 a2 (self : (List Z49) → (List (List (List Int))) → (List Z52) → Int → Option ((List (List Int)) × Bool)) y2 {k} (hk : 0 < k) x600 x601 x602 x603 x604 x605 x606 x607 x608 : F32_l2 N a0 a1 a2 self y2 k x600 x601 x602 x603 x604 x605 x606 x607 x608 = F32_l2_b N a0 a1 a2 self y2 (F32_l2 N a0 a1 a2 self y2 (k - 1)) x600 x601 x602 x603 x604 x605 x606 x607 x608 := by cases k;cases hk;rfl
def F32_b (N : Nat) (self : (List Z49) → (List (List (List Int))) → (List Z52) → Int → Option ((List (List Int)) × Bool)) (a0 : (List Z49)) (a1 : (List (List (List Int)))) (a2 : (List Z52)) (a3 : Int) : Option ((List (List Int)) × Bool) :=
  gd (InR a3 a2.length) (andO (F49 N a2 a3) fun y2 => F32_l2 N a0 a1 a2 self y2 N ((a2.getD a3.toNat (Ty.dflt Y52)).1) ((a2.getD a3.toNat (Ty.dflt Y52)).2.1) ((a2.getD a3.toNat (Ty.dflt Y52)).2.2.1) ((a2.getD a3.toNat (Ty.dflt Y52)).2.2.2.1) ((a2.getD a3.toNat (Ty.dflt Y52)).2.2.2.2.1) ((a2.getD a3.toNat (Ty.dflt Y52)).2.2.2.2.2.1) ((a2.getD a3.toNat (Ty.dflt Y52)).2.2.2.2.2.2) ([]) (0 : Int))
theorem ok32_b (N : Nat) (self : (List Z49) → (List (List (List Int))) → (List Z52) → Int → Option ((List (List Int)) × Bool)) (ih : ∀ (a0 : (List Z49)) (a1 : (List (List (List Int)))) (a2 : (List Z52)) (a3 : Int) (r : (List (List Int)) × Bool), self a0 a1 a2 a3 = some r → Con prog 32 [Vv (.sl Y49) a0, Vv (.sl (.sl (.sl (.int .i64)))) a1, Vv (.sl Y52) a2, I a3] [.lf (.v (.sl (.sl (.int .i64))) r.1), .lf (.v .bool r.2)]) (a0 : (List Z49)) (a1 : (List (List (List Int)))) (a2 : (List Z52)) (a3 : Int) {r : (List (List Int)) × Bool} (h : F32_b N self a0 a1 a2 a3 = some r) : Con prog 32 [Vv (.sl Y49) a0, Vv (.sl (.sl (.sl (.int .i64)))) a1, Vv (.sl Y52) a2, I a3] [.lf (.v (.sl (.sl (.int .i64))) r.1), .lf (.v .bool r.2)] := by
 refine ctr [.lf (.v (.sl (.sl (.int .i64)))), .lf (.v .bool)] K func32 rfl fun w0 E0 ht => ?_
 unfold F32_b at h
 show VW _ _ _ _ _ (retQ _ _ _ _) _
 refine nR K (tn 2) ?_
 obtain⟨g1,h⟩:=gS h
 refine nR K (pu 2 (an g1 (tn 3))) <| nR K (tn 2) <| sq <| VW.region <| nG K 2 (tn 2) ?_
 obtain⟨y2,hy,h⟩:=aS h
 refine clc false [.t (.sl Y52), .t (.int .i64)] [] (some 26) K (ok49 N _ _ hy) <| nN K (tn 1) ?_
 refine VW.join (fun s => ∃ (x44 : Int) (x45 : ByteArray) (x46 : Int) (x47 : Int) (x48 : Int) (x49 : Bool) (x50 : (List Int)) (x51 : (List (List (List Int)))), s = ⟨[(0, Vv (.sl Y49) a0), (1, Vv (.sl (.sl (.sl (.int .i64)))) a1), (10, .lf (.ptr 0 0 0 0)), (11, hh 1)], [bx [zi x44, zs x45, zi x46, zi x47, zi x48, zb x49, .v (.sl (.int .i64)) x50] 56, ar 0 (.sl (.sl (.int .i64))) x51 .tp]⟩ ∧ F32_j2 N a0 a1 x44 x45 x46 x47 x48 x49 x50 x51 = some r) ?_ ?_
 ·refine nR K (tn 1) <| VW.block <| lop (fun k s => ∃ (x600 : Int) (x601 : ByteArray) (x602 : Int) (x603 : Int) (x604 : Int) (x605 : Bool) (x606 : (List Int)) (x607 : (List (List (List Int)))) (x608 : Int), s = ⟨[(0, Vv (.sl Y49) a0), (1, Vv (.sl (.sl (.sl (.int .i64)))) a1), (2, Vv (.sl Y52) a2), (10, .lf (.ptr 0 0 0 0)), (11, hh 1), (12, hh 2), (13, I x608)], [bx [zi x600, zs x601, zi x602, zi x603, zi x604, zb x605, .v (.sl (.int .i64)) x606] 56, ar 0 (.sl (.sl (.int .i64))) x607 .tp, ar 0 (.int .i64) y2 .dp]⟩ ∧ F32_l2 N a0 a1 a2 self y2 k x600 x601 x602 x603 x604 x605 x606 x607 x608 = some r) N [.nilS 11 (.sl (.sl (.int .i64))) .tp, .ren [0, 1, 2, 10, 11, 12, 13] [0, 2, 1]] ⟨(a2.getD a3.toNat D52).1, (a2.getD a3.toNat D52).2.1, (a2.getD a3.toNat D52).2.2.1, (a2.getD a3.toNat D52).2.2.2.1, (a2.getD a3.toNat D52).2.2.2.2.1, (a2.getD a3.toNat D52).2.2.2.2.2.1, (a2.getD a3.toNat D52).2.2.2.2.2.2, [], (0 : Int), rfl, h⟩ ?_
  rintro k617 s ⟨x600, x601, x602, x603, x604, x605, x606, x607, x608, rfl, h⟩
  cases k617 with
  | zero => cases show none = some r from h
  | succ k617 =>
   replace h : F32_l2_b N a0 a1 a2 self y2 (F32_l2 N a0 a1 a2 self y2 k617) x600 x601 x602 x603 x604 x605 x606 x607 x608 = some r := h
   unfold F32_l2_b at h
   refine sq <| nR K (tn 4) ?_
   refine cnd h ?_ ?_<;>intro h
   ·refine VW.skip <| sq <| VW.block <| sq <| VW.region ?_
    obtain⟨g622,h⟩:=gS h
    obtain⟨g623,h⟩:=gS h
    refine nG K 7 (pu 5 (an g622 (an g623 (tn 0)))) ?_
    obtain⟨y624,hy,h⟩:=aS h
    refine clc false [.t (.sl Y49), .t (.sl (.sl (.sl (.int .i64)))), .t (.sl Y52), .t (.int .i64)] [] (some 41) K (ih _ _ _ _ _ hy) <| nN K (tn 5) <| sq <| nR K (tn 2) ?_
    refine cnd h ?_ ?_<;>intro h
    ·refine nR K (tn 2) ?_
     cases h; exact VW.ret (rt [])
    refine VW.skip ?_
    obtain⟨g625,h⟩:=gS h
    refine nE K (pu 3 (an g625 (tn 1))) <| nE K (tn 3) ?_
    exact aro [.ren [0, 1, 2, 10, 11, 12, 13] [0, 1, 2]] ⟨x600, x601, x602, x603, x604, x605, x606, (x607 ++ ([y624.1])), (wr (x608 + (1 : Int))), rfl, h⟩
   refine VW.exit ?_
   exact arv [.ren [0, 1, 10, 11] [0, 1]] ⟨x600, x601, x602, x603, x604, x605, x606, x607, rfl, h⟩
 rintro s ⟨x44, x45, x46, x47, x48, x49, x50, x51, rfl, h⟩
 unfold F32_j2 at h
 refine nR K (tn 2) ?_
 refine VW.join (fun s => ∃ x317, s = ⟨[(16, Vv (.sl (.sl (.int .i64))) x317)], []⟩ ∧ F32_j0 N x317 = some r) ?_ ?_
 ·refine nR K (tn 2) <| VW.block <| nR K (tn 2) ?_
  refine cnd h ?_ ?_<;>intro h
  ·refine VW.region <| nG K 4 (tn 4) ?_
   obtain⟨y319,hy,h⟩:=aS h
   refine clc false [.t (.sl Y49), .t .str] [] (some 59) K (ok50 N _ _ hy) ?_
   obtain⟨g320,h⟩:=gS h
   refine nN K (an g320 (tn 2)) ?_
   exact arv [.ren [16] []] ⟨(a1.getD y319.toNat (Ty.dflt (.sl (.sl (.int .i64))))), rfl, h⟩
  refine nR K (tn 2) ?_
  refine cnd h ?_ ?_<;>intro h
  ·obtain⟨g321,h⟩:=gS h
   obtain⟨g322,h⟩:=gS h
   obtain⟨y323,hy323,h⟩:=aS h
   refine dr K [(4, .cl [] (some 68) [.lf (.own (.sl (.int .i64)) y323 .tp)])] [(4, 0)] [4] [16] [2] (pu 2 (an g321 (an g322 (tn 2)))) ⟨qC false [.t Y52, .t (.sl (.sl (.int .i64)))] [] [] (some 68) K (ok51 N _ _ hy323), trivial⟩ ?_
   exact arv [.frz 0, .ren [16] []] ⟨y323, rfl, h⟩
  refine nR K (tn 2) ?_
  refine cnd h ?_ ?_<;>intro h
  ·obtain⟨g324,h⟩:=gS h
   obtain⟨g325,h⟩:=gS h
   obtain⟨y326,hy326,h⟩:=aS h
   refine dr K [(4, .cl [] (some 75) [.lf (.own (.sl (.int .i64)) y326 .dp)])] [(4, 0)] [4] [16] [2] (pu 2 (an g324 (an g325 (tn 2)))) ⟨qC false [.t Y52, .t (.sl (.sl (.int .i64)))] [] [] (some 75) K (ok52 N _ _ hy326), trivial⟩ ?_
   exact arv [.frz 0, .ren [16] []] ⟨y326, rfl, h⟩
  refine nR K (tn 2) ?_
  refine cnd h ?_ ?_<;>intro h
  ·obtain⟨g327,h⟩:=gS h
   obtain⟨g328,h⟩:=gS h
   obtain⟨g329,h⟩:=gS h
   obtain⟨g330,h⟩:=gS h
   obtain⟨y331,hy331,h⟩:=aS h
   refine dr K [(7, .cl [] (some 85) [.lf (.own (.sl (.int .i64)) y331 .dp)])] [(7, 0)] [7] [16] [2] (pu 2 (an g327 (an g328 (pu 1 (an g329 (an g330 (tn 2))))))) ⟨qC false [.t Y52, .t (.sl (.sl (.int .i64))), .t (.sl (.sl (.int .i64)))] [] [] (some 85) K (ok53 N _ _ _ hy331), trivial⟩ ?_
   exact arv [.frz 0, .ren [16] []] ⟨y331, rfl, h⟩
  refine nR K (tn 2) ?_
  refine cnd h ?_ ?_<;>intro h
  ·refine nR K (tn 1) <| VW.block <| lop (fun k s => ∃ x412 x413, s = ⟨[(11, hh 0), (16, hh 1), (17, I x413)], [ar 0 (.sl (.sl (.int .i64))) x51 .tp, ar 0 (.sl (.int .i64)) x412 .tp]⟩ ∧ F32_l1 N x51 k x412 x413 = some r) N [.nilS 16 (.sl (.int .i64)) .tp, .ren [11, 16, 17] [1, 2]] ⟨[], (0 : Int), rfl, h⟩ ?_
   rintro k494 s ⟨x412, x413, rfl, h⟩
   cases k494 with
   | zero => cases show none = some r from h
   | succ k494 =>
    replace h : F32_l1_b N x51 (F32_l1 N x51 k494) x412 x413 = some r := h
    unfold F32_l1_b at h
    refine sq <| nR K (tn 2) ?_
    refine cnd h ?_ ?_<;>intro h
    ·refine VW.skip ?_
     refine VW.join (fun s => ∃ x534, s = ⟨[(11, hh 0), (16, hh 1), (17, I x413)], [ar 0 (.sl (.sl (.int .i64))) x51 .tp, ar 0 (.sl (.int .i64)) x534 .tp]⟩ ∧ F32_j1 N (F32_l1 N x51 k494) x413 x534 = some r) ?_ ?_
     ·refine VW.block <| nR K (tn 1) <| VW.block <| lop (fun k s => ∃ x548 x549, s = ⟨[(11, hh 0), (16, hh 1), (17, I x413), (18, I x549)], [ar 0 (.sl (.sl (.int .i64))) x51 .tp, ar 0 (.sl (.int .i64)) x548 .tp]⟩ ∧ F32_l0 N (F32_l1 N x51 k494) x51 x413 k x548 x549 = some r) N [.ren [11, 16, 17, 18] [0, 1]] ⟨x412, (0 : Int), rfl, h⟩ ?_
      rintro k562 s ⟨x548, x549, rfl, h⟩
      cases k562 with
      | zero => cases show none = some r from h
      | succ k562 =>
       replace h : F32_l0_b N (F32_l1 N x51 k494) x51 x413 (F32_l0 N (F32_l1 N x51 k494) x51 x413 k562) x548 x549 = some r := h
       unfold F32_l0_b at h
       refine sq ?_
       obtain⟨g565,h⟩:=gS h
       obtain⟨g566,h⟩:=gS h
       refine nR K (pu 3 (an g565 (an g566 (tn 2)))) ?_
       refine cnd h ?_ ?_<;>intro h
       ·refine VW.skip <| sq <| VW.block ?_
        obtain⟨g571,h⟩:=gS h
        obtain⟨g572,h⟩:=gS h
        obtain⟨g573,h⟩:=gS h
        obtain⟨g574,h⟩:=gS h
        refine nE K (pu 3 (an g571 (an g572 (pu 1 (an g573 (pu 2 (an g574 (tn 1)))))))) <| nE K (tn 3) ?_
        exact aro [.ren [11, 16, 17, 18] [0, 1]] ⟨(x548 ++ ([((x51.getD x413.toNat (Ty.dflt (.sl (.sl (.int .i64))))).getD x549.toNat (Ty.dflt (.sl (.int .i64))))])), (wr (x549 + (1 : Int))), rfl, h⟩
       refine VW.exit ?_
       exact arv [.ren [11, 16, 17] [0, 1]] ⟨x548, rfl, h⟩
     rintro s ⟨x534, rfl, h⟩
     unfold F32_j1 at h
     refine nE K (tn 3) ?_
     exact aro [.ren [11, 16, 17] [0, 1]] ⟨x534, (wr (x413 + (1 : Int))), rfl, h⟩
    refine VW.exit ?_
    exact arv [.frz 1, .ren [16] []] ⟨x412, rfl, h⟩
  refine nR K (tn 2) ?_
  refine cnd h ?_ ?_<;>intro h
  ·obtain⟨g575,h⟩:=gS h
   obtain⟨g576,h⟩:=gS h
   obtain⟨y577,hy577,h⟩:=aS h
   refine dr K [(4, .cl [] (some 117) [.lf (.own (.sl (.int .i64)) y577 .tp)])] [(4, 0)] [4] [16] [2] (pu 2 (an g575 (an g576 (tn 2)))) ⟨qC false [.t Y52, .t (.sl (.sl (.int .i64)))] [] [] (some 117) K (ok54 N _ _ hy577), trivial⟩ ?_
   exact arv [.frz 0, .ren [16] []] ⟨y577, rfl, h⟩
  refine nR K (tn 2) ?_
  refine cnd h ?_ ?_<;>intro h
  ·obtain⟨g578,h⟩:=gS h
   obtain⟨g579,h⟩:=gS h
   refine nR K (pu 1 (an g578 (an g579 (tn 1)))) <| nR K (tn 5) ?_
   refine cnd h ?_ ?_<;>intro h
   ·obtain⟨g580,h⟩:=gS h
    refine nE K (pu 3 (an g580 (tn 1))) ?_
    exact arv [.ren [16] []] ⟨((x51.getD ((0 : Int).toNat) (Ty.dflt (.sl (.sl (.int .i64))))).take x48.toNat), rfl, h⟩
   refine VW.skip ?_
   exact arv [.ren [16] []] ⟨(x51.getD ((0 : Int).toNat) (Ty.dflt (.sl (.sl (.int .i64))))), rfl, h⟩
  refine nR K (tn 2) ?_
  refine cnd h ?_ ?_<;>intro h
  ·refine VW.region ?_
   obtain⟨g581,h⟩:=gS h
   obtain⟨g582,h⟩:=gS h
   refine nG K 3 (pu 1 (an g581 (an g582 (tn 0)))) ?_
   obtain⟨y583,hy,h⟩:=aS h
   refine clc false [.t (.sl (.sl (.int .i64)))] [] (some 137) K (ok55 N _ hy) <| nN K (tn 1) ?_
   exact arv [.frz 2, .ren [16] []] ⟨y583, rfl, h⟩
  refine VW.skip ?_
  exact arv [.nilV 16 (.sl (.int .i64)), .ren [16] []] ⟨[], rfl, h⟩
 rintro s ⟨x317, rfl, h⟩
 unfold F32_j0 at h
 refine nR K (tn 6) ?_
 cases h; exact VW.ret (rt [])
def F32_r (N : Nat) := loopF (F32_b N) (fun _ _ _ _ => none)
theorem F32_s N {k} (hk : 0 < k) a0 a1 a2 a3 : F32_r N k a0 a1 a2 a3 = F32_b N (F32_r N (k - 1)) a0 a1 a2 a3 := by cases k;cases hk;rfl
def F32 (N : Nat) : (List Z49) → (List (List (List Int))) → (List Z52) → Int → Option ((List (List Int)) × Bool) := F32_r N N
theorem ok32_k (N : Nat) : ∀ (k : Nat) (a0 : (List Z49)) (a1 : (List (List (List Int)))) (a2 : (List Z52)) (a3 : Int) (r : (List (List Int)) × Bool), loopF (F32_b N) (fun _ _ _ _ => none) k a0 a1 a2 a3 = some r → Con prog 32 [Vv (.sl Y49) a0, Vv (.sl (.sl (.sl (.int .i64)))) a1, Vv (.sl Y52) a2, I a3] [.lf (.v (.sl (.sl (.int .i64))) r.1), .lf (.v .bool r.2)]
 | 0, a0, a1, a2, a3, r, h => nomatch (show (none : Option ((List (List Int)) × Bool)) = some r from h)
 | k + 1, a0, a1, a2, a3, r, h => ok32_b N _ (ok32_k N k) a0 a1 a2 a3 h
theorem ok32 N a0 a1 a2 a3 {r} (h : F32 N a0 a1 a2 a3 = some r) : Con prog 32 [Vv (.sl Y49) a0, Vv (.sl (.sl (.sl (.int .i64)))) a1, Vv (.sl Y52) a2, I a3] [.lf (.v (.sl (.sl (.int .i64))) r.1), .lf (.v .bool r.2)] := ok32_k N N a0 a1 a2 a3 r h
def F33_j0 (N : Nat) (x22 : (List (List Int))) : Option ((List (List Int))) :=
  some x22
def F33_l0_b (N : Nat) (a0 : (List (List Int))) (nx38 : (List (List Int)) → Int → Option ((List (List Int)))) (x30 : (List (List Int))) (x31 : Int) : Option ((List (List Int))) :=
  cond (decide (x31 < (a0.length : Int))) (gd (InR x31 a0.length) (andO (F56 N (a0.getD x31.toNat (Ty.dflt (.sl (.int .i64))))) fun y43 => gd (x30.length + ([y43]).length ≤ lim (.sl (.int .i64))) (nx38 (x30 ++ ([y43])) (IntKind.i64.wrap (x31 + (1 : Int)))))) (F33_j0 N x30)
def F33_l0 (N : Nat) (a0 : (List (List Int))) := loopF (F33_l0_b N a0) (fun _ _ => none)
theorem F33_l0_s N a0 {k} (hk : 0 < k) x30 x31 : F33_l0 N a0 k x30 x31 = F33_l0_b N a0 (F33_l0 N a0 (k - 1)) x30 x31 := by cases k;cases hk;rfl
def F33 (N : Nat) (a0 : (List (List Int))) : Option ((List (List Int))) :=
  F33_l0 N a0 N ([]) (0 : Int)
theorem ok33 N a0 {r} (h : F33 N a0 = some r) : Con prog 33 [Vv (.sl (.sl (.int .i64))) a0] [.lf (.own (.sl (.int .i64)) r .dp)] := by
 refine ctr [.lf (.own (.sl (.int .i64)) .dp)] K func33 rfl fun w0 E0 ht => ?_
 unfold F33 at h
 show VW _ _ _ _ _ (retQ _ _ _ _) _
 refine nR K (tn 1) <| nR K (tn 2) ?_
 refine VW.join (fun s => ∃ x22, s = ⟨[(3, hh 0)], [ar 0 (.sl (.int .i64)) x22 .dp]⟩ ∧ F33_j0 N x22 = some r) ?_ ?_
 ·refine nR K (tn 1) <| VW.block <| lop (fun k s => ∃ x30 x31, s = ⟨[(0, Vv (.sl (.sl (.int .i64))) a0), (3, hh 0), (4, I x31)], [ar 0 (.sl (.int .i64)) x30 .dp]⟩ ∧ F33_l0 N a0 k x30 x31 = some r) N [.nilS 3 (.sl (.int .i64)) .dp, .ren [0, 3, 4] [0]] ⟨[], (0 : Int), rfl, h⟩ ?_
  rintro k38 s ⟨x30, x31, rfl, h⟩
  cases k38 with
  | zero => cases show none = some r from h
  | succ k38 =>
   replace h : F33_l0_b N a0 (F33_l0 N a0 k38) x30 x31 = some r := h
   unfold F33_l0_b at h
   refine sq <| nR K (tn 4) ?_
   refine cnd h ?_ ?_<;>intro h
   ·refine VW.skip <| sq <| VW.block <| VW.region ?_
    obtain⟨g42,h⟩:=gS h
    refine nG K 5 (pu 3 (an g42 (tn 1))) ?_
    obtain⟨y43,hy,h⟩:=aS h
    refine clc false [.t (.sl (.int .i64))] [] (some 17) K (ok56 N _ hy) <| VO.litA (d := 18) (v := hh 2) (H' := [ar 0 (.sl (.int .i64)) x30 .dp, none, ar 0 (.sl (.int .i64)) ([y43]) .dp]) K (by kernel_rfl) ?_
    obtain⟨g44,h⟩:=gS h
    refine VO.appM (d := 19) (φ := x30.length + ([y43]).length ≤ lim (.sl (.int .i64))) (v := .lf (.hd 0 1 none)) (H' := [ar 1 (.sl (.int .i64)) (x30 ++ ([y43])) .dp, none, none]) K (by kernel_rfl) g44 <| nN K (tn 1) <| nE K (tn 3) ?_
    exact aro [.ren [0, 3, 4] [0]] ⟨(x30 ++ ([y43])), (wr (x31 + (1 : Int))), rfl, h⟩
   refine VW.exit ?_
   exact arv [.ren [3] [0]] ⟨x30, rfl, h⟩
 rintro s ⟨x22, rfl, h⟩
 unfold F33_j0 at h
 refine nR K (tn 2) ?_
 cases h; exact VW.ret (rt [some 0])
def F8_j0 (N : Nat) (a0 : (List Z49)) (a1 : (List (List (List Int)))) (a2 : (List Z52)) : Option ((List (List Int)) × Int) :=
  andO (F32 N a0 a1 a2 (0 : Int)) fun y13 => cond (!y13.2) (some ([], (2 : Int))) (andO (F33 N y13.1) fun y14 => some (y14, (0 : Int)))
def F8_l0_b (N : Nat) (a0 : (List Z49)) (a1 : (List (List (List Int)))) (a2 : (List Z52)) (nx21 : Int → Option ((List (List Int)) × Int)) (x18 : Int) : Option ((List (List Int)) × Int) :=
  cond (decide (x18 < (a2.length : Int))) (gd (InR x18 a2.length) (cond ((a2.getD x18.toNat (Ty.dflt Y52)).2.2.2.2.2.1) (some ([], (1 : Int))) (nx21 (IntKind.i64.wrap (x18 + (1 : Int)))))) (F8_j0 N a0 a1 a2)
def F8_l0 (N : Nat) (a0 : (List Z49)) (a1 : (List (List (List Int)))) (a2 : (List Z52)) := loopF (F8_l0_b N a0 a1 a2) (fun _ => none)
theorem F8_l0_s N a0 a1 a2 {k} (hk : 0 < k) x18 : F8_l0 N a0 a1 a2 k x18 = F8_l0_b N a0 a1 a2 (F8_l0 N a0 a1 a2 (k - 1)) x18 := by cases k;cases hk;rfl
def F8 (N : Nat) (a0 : (List Z49)) (a1 : (List (List (List Int)))) (a2 : (List Z52)) : Option ((List (List Int)) × Int) :=
  andO (F30 N a0 a1) fun y3 => cond (!y3) (some ([], (1 : Int))) (andO (F31 N a0 a2) fun y4 => cond (!y4) (some ([], (1 : Int))) (F8_l0 N a0 a1 a2 N (0 : Int)))
theorem ok8 N a0 a1 a2 {r} (h : F8 N a0 a1 a2 = some r) : Con prog 8 [Vv (.sl Y49) a0, Vv (.sl (.sl (.sl (.int .i64)))) a1, Vv (.sl Y52) a2] [.lf (.own (.sl (.int .i64)) r.1 .dp), .lf (.v (.int .i64) r.2)] := by
 refine ctr [.lf (.own (.sl (.int .i64)) .dp), .lf (.v (.int .i64))] K func8 rfl fun w0 E0 ht => ?_
 unfold F8 at h
 show VW _ _ _ _ _ (retQ _ _ _ _) _
 refine nR K (tn 2) <| sq <| sq <| VW.region <| nG K 2 (tn 2) ?_
 obtain⟨y3,hy,h⟩:=aS h
 refine clc false [.t (.sl Y49), .t (.sl (.sl (.sl (.int .i64))))] [] (some 13) K (ok30 N _ _ hy) <| nG K 2 (tn 2) ?_
 refine spC 15 h ?_ ?_<;>intro h
 ·refine nN K (tn 5) ?_
  refine VW.cond (b := true) (by kernel_rfl) (fun _ => ?_) (fun h' => nomatch h')
  refine nR K (tn 2) ?_
  cases h; exact VW.ret (rt [none])
 refine nG K 2 (tn 2) <| VO.on (j := 4) (want := false) (d := 15) (b := false) rfl rfl rfl (by kernel_rfl) rfl ?_
 obtain⟨y4,hy,h⟩:=aS h
 refine clc false [.t (.sl Y49), .t (.sl Y52)] [] (some 18) K (ok31 N _ _ hy) <| nN K (tn 2) ?_
 refine cnd h ?_ ?_<;>intro h
 ·refine nR K (tn 2) ?_
  cases h; exact VW.ret (rt [none])
 refine VW.skip ?_
 refine VW.join (fun s => s = ⟨[(0, Vv (.sl Y49) a0), (1, Vv (.sl (.sl (.sl (.int .i64)))) a1), (2, Vv (.sl Y52) a2)], []⟩ ∧ F8_j0 N a0 a1 a2 = some r) ?_ ?_
 ·refine nR K (tn 1) <| VW.block <| lop (fun k s => ∃ x18, s = ⟨[(0, Vv (.sl Y49) a0), (1, Vv (.sl (.sl (.sl (.int .i64)))) a1), (2, Vv (.sl Y52) a2), (8, I x18)], []⟩ ∧ F8_l0 N a0 a1 a2 k x18 = some r) N [.ren [0, 1, 2, 8] []] ⟨(0 : Int), rfl, h⟩ ?_
  rintro k21 s ⟨x18, rfl, h⟩
  cases k21 with
  | zero => cases show none = some r from h
  | succ k21 =>
   replace h : F8_l0_b N a0 a1 a2 (F8_l0 N a0 a1 a2 k21) x18 = some r := h
   unfold F8_l0_b at h
   refine sq <| nR K (tn 4) ?_
   refine cnd h ?_ ?_<;>intro h
   ·refine VW.skip <| sq <| VW.block ?_
    obtain⟨g23,h⟩:=gS h
    refine nR K (pu 2 (an g23 (tn 2))) ?_
    refine cnd h ?_ ?_<;>intro h
    ·refine nR K (tn 2) ?_
     cases h; exact VW.ret (rt [none])
    refine VW.skip <| nE K (tn 3) ?_
    exact aro [.ren [0, 1, 2, 8] []] ⟨(wr (x18 + (1 : Int))), rfl, h⟩
   refine VW.exit ?_
   exact arv [.ren [0, 1, 2] []] ⟨rfl, h⟩
 rintro s ⟨rfl, h⟩
 unfold F8_j0 at h
 refine sq <| VW.region <| nG K 3 (tn 3) ?_
 obtain⟨y13,hy,h⟩:=aS h
 refine clc false [.t (.sl Y49), .t (.sl (.sl (.sl (.int .i64)))), .t (.sl Y52), .t (.int .i64)] [] (some 36) K (ok32 N _ _ _ _ hy) <| nN K (tn 5) <| sq <| nR K (tn 2) ?_
 refine cnd h ?_ ?_<;>intro h
 ·refine nR K (tn 2) ?_
  cases h; exact VW.ret (rt [none])
 refine VW.skip <| sq <| VW.region <| nG K 1 (tn 1) ?_
 obtain⟨y14,hy,h⟩:=aS h
 refine clc false [.t (.sl (.sl (.int .i64)))] [] (some 42) K (ok33 N _ hy) <| nN K (tn 2) ?_
 cases h; exact VW.ret (rt [some 0])
def F34 (N : Nat) (a0 : Z49) : Option (Z49) :=
  some a0
theorem ok34 N a0 {r} (h : F34 N a0 = some r) : Con prog 34 [.agg (lv Y49 a0)] [.agg [.v .str r.1, .v (.int .i64) r.2]] := by
 refine ctr [.agg [.v .str, .v (.int .i64)]] K func34 rfl fun w0 E0 ht => ?_
 unfold F34 at h
 show VW _ _ _ _ _ (retQ _ _ _ _) _
 refine nR K (tn 2) <| nR K (tn 1) <| nR K (tn 4) <| nR K (tn 4) <| nR K (tn 2) ?_
 cases h; exact VW.ret (rt [])
def F9_j0 (N : Nat) (x30 : (List Z49)) : Option ((List Z49)) :=
  some x30
def F9_l0_b (N : Nat) (a0 : (List Z49)) (nx51 : (List Z49) → Int → Option ((List Z49))) (x41 : (List Z49)) (x42 : Int) : Option ((List Z49)) :=
  cond (decide (x42 < (a0.length : Int))) (gd (InR x42 a0.length) (andO (F34 N (a0.getD x42.toNat (Ty.dflt Y49))) fun y57 => gd (InR x42 x41.length) (gd (x42.toNat < x41.length) (nx51 (x41.set x42.toNat y57) (IntKind.i64.wrap (x42 + (1 : Int))))))) (F9_j0 N x41)
def F9_l0 (N : Nat) (a0 : (List Z49)) := loopF (F9_l0_b N a0) (fun _ _ => none)
theorem F9_l0_s N a0 {k} (hk : 0 < k) x41 x42 : F9_l0 N a0 k x41 x42 = F9_l0_b N a0 (F9_l0 N a0 (k - 1)) x41 x42 := by cases k;cases hk;rfl
def F9 (N : Nat) (a0 : (List Z49)) : Option ((List Z49)) :=
  gd (0 ≤ (a0.length : Int) ∧ (a0.length : Int) ≤ (lim Y49 : Int) ∧ (a0.length : Int) = (a0.length : Int)) (F9_l0 N a0 N (List.replicate (a0.length : Int).toNat (Ty.dflt Y49)) (0 : Int))
theorem ok9 N a0 {r} (h : F9 N a0 = some r) : Con prog 9 [Vv (.sl Y49) a0] [.lf (.own Y49 r .dp)] := by
 refine ctr [.lf (.own Y49 .dp)] K func9 rfl fun w0 E0 ht => ?_
 unfold F9 at h
 show VW _ _ _ _ _ (retQ _ _ _ _) _
 refine nR K (tn 1) ?_
 obtain⟨g1,h⟩:=gS h
 refine nR K (pu 2 (an g1 (tn 1))) ?_
 refine VW.join (fun s => ∃ x30, s = ⟨[(3, hh 0)], [ar 0 Y49 x30 .dp]⟩ ∧ F9_j0 N x30 = some r) ?_ ?_
 ·refine nR K (tn 1) <| VW.block <| lop (fun k s => ∃ x41 x42, s = ⟨[(0, Vv (.sl Y49) a0), (3, hh 0), (4, I x42)], [ar 0 Y49 x41 .dp]⟩ ∧ F9_l0 N a0 k x41 x42 = some r) N [.ren [0, 3, 4] [0]] ⟨(List.replicate (a0.length : Int).toNat D49), (0 : Int), rfl, h⟩ ?_
  rintro k51 s ⟨x41, x42, rfl, h⟩
  cases k51 with
  | zero => cases show none = some r from h
  | succ k51 =>
   replace h : F9_l0_b N a0 (F9_l0 N a0 k51) x41 x42 = some r := h
   unfold F9_l0_b at h
   refine sq <| nR K (tn 4) ?_
   refine cnd h ?_ ?_<;>intro h
   ·refine VW.skip <| sq <| VW.block <| VW.region ?_
    obtain⟨g56,h⟩:=gS h
    refine nG K 6 (pu 4 (an g56 (tn 1))) ?_
    obtain⟨y57,hy,h⟩:=aS h
    refine clc false [.t Y49] [] (some 20) K (ok34 N _ hy) ?_
    obtain⟨g58,h⟩:=gS h
    obtain⟨g59,h⟩:=gS h
    refine nN K (an g58 (an g59 (tn 0))) <| nE K (tn 3) ?_
    exact aro [.ren [0, 3, 4] [0]] ⟨(x41.set x42.toNat y57), (wr (x42 + (1 : Int))), rfl, h⟩
   refine VW.exit ?_
   exact arv [.ren [3] [0]] ⟨x41, rfl, h⟩
 rintro s ⟨x30, rfl, h⟩
 unfold F9_j0 at h
 refine nR K (tn 2) ?_
 cases h; exact VW.ret (rt [some 0])
def F57_j0 (N : Nat) (x24 : (List Int)) : Option ((List Int)) :=
  some x24
def F57_l0_b (N : Nat) (a0 : (List Int)) (nx41 : (List Int) → Int → Option ((List Int))) (x33 : (List Int)) (x34 : Int) : Option ((List Int)) :=
  cond (decide (x34 < (a0.length : Int))) (gd (InR x34 a0.length) (gd (InR x34 x33.length) (gd (x34.toNat < x33.length) (nx41 (x33.set x34.toNat (a0.getD x34.toNat (Ty.dflt (.int .i64)))) (IntKind.i64.wrap (x34 + (1 : Int))))))) (F57_j0 N x33)
def F57_l0 (N : Nat) (a0 : (List Int)) := loopF (F57_l0_b N a0) (fun _ _ => none)
theorem F57_l0_s N a0 {k} (hk : 0 < k) x33 x34 : F57_l0 N a0 k x33 x34 = F57_l0_b N a0 (F57_l0 N a0 (k - 1)) x33 x34 := by cases k;cases hk;rfl
def F57 (N : Nat) (a0 : (List Int)) : Option ((List Int)) :=
  gd (0 ≤ (a0.length : Int) ∧ (a0.length : Int) ≤ (lim (.int .i64) : Int) ∧ (a0.length : Int) = (a0.length : Int)) (F57_l0 N a0 N (List.replicate (a0.length : Int).toNat (Ty.dflt (.int .i64))) (0 : Int))
theorem ok57 N a0 {r} (h : F57 N a0 = some r) : Con prog 57 [Vv (.sl (.int .i64)) a0] [.lf (.own (.int .i64) r .dp)] := by
 refine ctr [.lf (.own (.int .i64) .dp)] K func57 rfl fun w0 E0 ht => ?_
 unfold F57 at h
 show VW _ _ _ _ _ (retQ _ _ _ _) _
 refine nR K (tn 1) ?_
 obtain⟨g1,h⟩:=gS h
 refine nR K (pu 2 (an g1 (tn 1))) ?_
 refine VW.join (fun s => ∃ x24, s = ⟨[(3, hh 0)], [ar 0 (.int .i64) x24 .dp]⟩ ∧ F57_j0 N x24 = some r) ?_ ?_
 ·refine nR K (tn 1) <| VW.block <| lop (fun k s => ∃ x33 x34, s = ⟨[(0, Vv (.sl (.int .i64)) a0), (3, hh 0), (4, I x34)], [ar 0 (.int .i64) x33 .dp]⟩ ∧ F57_l0 N a0 k x33 x34 = some r) N [.ren [0, 3, 4] [0]] ⟨(List.replicate (a0.length : Int).toNat (Ty.dflt (.int .i64))), (0 : Int), rfl, h⟩ ?_
  rintro k41 s ⟨x33, x34, rfl, h⟩
  cases k41 with
  | zero => cases show none = some r from h
  | succ k41 =>
   replace h : F57_l0_b N a0 (F57_l0 N a0 k41) x33 x34 = some r := h
   unfold F57_l0_b at h
   refine sq <| nR K (tn 4) ?_
   refine cnd h ?_ ?_<;>intro h
   ·refine VW.skip <| sq <| VW.block ?_
    obtain⟨g45,h⟩:=gS h
    obtain⟨g46,h⟩:=gS h
    obtain⟨g47,h⟩:=gS h
    refine nE K (pu 4 (an g45 (pu 1 (an g46 (an g47 (tn 0)))))) <| nE K (tn 3) ?_
    exact aro [.ren [0, 3, 4] [0]] ⟨(x33.set x34.toNat (a0.getD x34.toNat (Ty.dflt (.int .i64)))), (wr (x34 + (1 : Int))), rfl, h⟩
   refine VW.exit ?_
   exact arv [.ren [3] [0]] ⟨x33, rfl, h⟩
 rintro s ⟨x24, rfl, h⟩
 unfold F57_j0 at h
 refine nR K (tn 2) ?_
 cases h; exact VW.ret (rt [some 0])
def F35_j0 (N : Nat) (x30 : (List (List Int))) : Option ((List (List Int))) :=
  some x30
def F35_l0_b (N : Nat) (a0 : (List (List Int))) (nx51 : (List (List Int)) → Int → Option ((List (List Int)))) (x41 : (List (List Int))) (x42 : Int) : Option ((List (List Int))) :=
  cond (decide (x42 < (a0.length : Int))) (gd (InR x42 a0.length) (andO (F57 N (a0.getD x42.toNat (Ty.dflt (.sl (.int .i64))))) fun y57 => gd (InR x42 x41.length) (gd (x42.toNat < x41.length) (nx51 (x41.set x42.toNat y57) (IntKind.i64.wrap (x42 + (1 : Int))))))) (F35_j0 N x41)
def F35_l0 (N : Nat) (a0 : (List (List Int))) := loopF (F35_l0_b N a0) (fun _ _ => none)
theorem F35_l0_s N a0 {k} (hk : 0 < k) x41 x42 : F35_l0 N a0 k x41 x42 = F35_l0_b N a0 (F35_l0 N a0 (k - 1)) x41 x42 := by cases k;cases hk;rfl
def F35 (N : Nat) (a0 : (List (List Int))) : Option ((List (List Int))) :=
  gd (0 ≤ (a0.length : Int) ∧ (a0.length : Int) ≤ (lim (.sl (.int .i64)) : Int) ∧ (a0.length : Int) = (a0.length : Int)) (F35_l0 N a0 N (List.replicate (a0.length : Int).toNat (Ty.dflt (.sl (.int .i64)))) (0 : Int))
theorem ok35 N a0 {r} (h : F35 N a0 = some r) : Con prog 35 [Vv (.sl (.sl (.int .i64))) a0] [.lf (.own (.sl (.int .i64)) r .dp)] := by
 refine ctr [.lf (.own (.sl (.int .i64)) .dp)] K func35 rfl fun w0 E0 ht => ?_
 unfold F35 at h
 show VW _ _ _ _ _ (retQ _ _ _ _) _
 refine nR K (tn 1) ?_
 obtain⟨g1,h⟩:=gS h
 refine nR K (pu 2 (an g1 (tn 1))) ?_
 refine VW.join (fun s => ∃ x30, s = ⟨[(3, hh 0)], [ar 0 (.sl (.int .i64)) x30 .dp]⟩ ∧ F35_j0 N x30 = some r) ?_ ?_
 ·refine nR K (tn 1) <| VW.block <| lop (fun k s => ∃ x41 x42, s = ⟨[(0, Vv (.sl (.sl (.int .i64))) a0), (3, hh 0), (4, I x42)], [ar 0 (.sl (.int .i64)) x41 .dp]⟩ ∧ F35_l0 N a0 k x41 x42 = some r) N [.ren [0, 3, 4] [0]] ⟨(List.replicate (a0.length : Int).toNat (Ty.dflt (.sl (.int .i64)))), (0 : Int), rfl, h⟩ ?_
  rintro k51 s ⟨x41, x42, rfl, h⟩
  cases k51 with
  | zero => cases show none = some r from h
  | succ k51 =>
   replace h : F35_l0_b N a0 (F35_l0 N a0 k51) x41 x42 = some r := h
   unfold F35_l0_b at h
   refine sq <| nR K (tn 4) ?_
   refine cnd h ?_ ?_<;>intro h
   ·refine VW.skip <| sq <| VW.block <| VW.region ?_
    obtain⟨g56,h⟩:=gS h
    refine nG K 6 (pu 4 (an g56 (tn 1))) ?_
    obtain⟨y57,hy,h⟩:=aS h
    refine clc false [.t (.sl (.int .i64))] [] (some 20) K (ok57 N _ hy) ?_
    obtain⟨g58,h⟩:=gS h
    refine nG K 1 (an g58 (tn 0)) ?_
    obtain⟨g59,h⟩:=gS h
    refine VO.storeA (φ := x42.toNat < x41.length) (H' := [ar 0 (.sl (.int .i64)) (x41.set x42.toNat y57) .dp, none]) K (by kernel_rfl) g59 <| sN K [0, 3, 4] [0] ⟨[(0, Vv (.sl (.sl (.int .i64))) a0), (3, hh 0), (4, I x42)], [ar 0 (.sl (.int .i64)) (x41.set x42.toNat y57) .dp]⟩ (tn 0) <| nE K (tn 3) ?_
    exact aro [.ren [0, 3, 4] [0]] ⟨(x41.set x42.toNat y57), (wr (x42 + (1 : Int))), rfl, h⟩
   refine VW.exit ?_
   exact arv [.ren [3] [0]] ⟨x41, rfl, h⟩
 rintro s ⟨x30, rfl, h⟩
 unfold F35_j0 at h
 refine nR K (tn 2) ?_
 cases h; exact VW.ret (rt [some 0])
def F10_j0 (N : Nat) (x30 : (List (List (List Int)))) : Option ((List (List (List Int)))) :=
  some x30
def F10_l0_b (N : Nat) (a0 : (List (List (List Int)))) (nx51 : (List (List (List Int))) → Int → Option ((List (List (List Int))))) (x41 : (List (List (List Int)))) (x42 : Int) : Option ((List (List (List Int)))) :=
  cond (decide (x42 < (a0.length : Int))) (gd (InR x42 a0.length) (andO (F35 N (a0.getD x42.toNat (Ty.dflt (.sl (.sl (.int .i64)))))) fun y57 => gd (InR x42 x41.length) (gd (x42.toNat < x41.length) (nx51 (x41.set x42.toNat y57) (IntKind.i64.wrap (x42 + (1 : Int))))))) (F10_j0 N x41)
def F10_l0 (N : Nat) (a0 : (List (List (List Int)))) := loopF (F10_l0_b N a0) (fun _ _ => none)
theorem F10_l0_s N a0 {k} (hk : 0 < k) x41 x42 : F10_l0 N a0 k x41 x42 = F10_l0_b N a0 (F10_l0 N a0 (k - 1)) x41 x42 := by cases k;cases hk;rfl
def F10 (N : Nat) (a0 : (List (List (List Int)))) : Option ((List (List (List Int)))) :=
  gd (0 ≤ (a0.length : Int) ∧ (a0.length : Int) ≤ (lim (.sl (.sl (.int .i64))) : Int) ∧ (a0.length : Int) = (a0.length : Int)) (F10_l0 N a0 N (List.replicate (a0.length : Int).toNat (Ty.dflt (.sl (.sl (.int .i64))))) (0 : Int))
theorem ok10 N a0 {r} (h : F10 N a0 = some r) : Con prog 10 [Vv (.sl (.sl (.sl (.int .i64)))) a0] [.lf (.own (.sl (.sl (.int .i64))) r .dp)] := by
 refine ctr [.lf (.own (.sl (.sl (.int .i64))) .dp)] K func10 rfl fun w0 E0 ht => ?_
 unfold F10 at h
 show VW _ _ _ _ _ (retQ _ _ _ _) _
 refine nR K (tn 1) ?_
 obtain⟨g1,h⟩:=gS h
 refine nR K (pu 2 (an g1 (tn 1))) ?_
 refine VW.join (fun s => ∃ (x30 : (List (List (List Int)))), s = ⟨[(3, hh 0)], [ar 0 (.sl (.sl (.int .i64))) x30 .dp]⟩ ∧ F10_j0 N x30 = some r) ?_ ?_
 ·refine nR K (tn 1) <| VW.block <| lop (fun k s => ∃ (x41 : (List (List (List Int)))) (x42 : Int), s = ⟨[(0, Vv (.sl (.sl (.sl (.int .i64)))) a0), (3, hh 0), (4, I x42)], [ar 0 (.sl (.sl (.int .i64))) x41 .dp]⟩ ∧ F10_l0 N a0 k x41 x42 = some r) N [.ren [0, 3, 4] [0]] ⟨(List.replicate (a0.length : Int).toNat (Ty.dflt (.sl (.sl (.int .i64))))), (0 : Int), rfl, h⟩ ?_
  rintro k51 s ⟨x41, x42, rfl, h⟩
  cases k51 with
  | zero => cases show none = some r from h
  | succ k51 =>
   replace h : F10_l0_b N a0 (F10_l0 N a0 k51) x41 x42 = some r := h
   unfold F10_l0_b at h
   refine sq <| nR K (tn 4) ?_
   refine cnd h ?_ ?_<;>intro h
   ·refine VW.skip <| sq <| VW.block <| VW.region ?_
    obtain⟨g56,h⟩:=gS h
    refine nG K 6 (pu 4 (an g56 (tn 1))) ?_
    obtain⟨y57,hy,h⟩:=aS h
    refine clc false [.t (.sl (.sl (.int .i64)))] [] (some 20) K (ok35 N _ hy) ?_
    obtain⟨g58,h⟩:=gS h
    refine nG K 1 (an g58 (tn 0)) ?_
    obtain⟨g59,h⟩:=gS h
    refine VO.storeA (φ := x42.toNat < x41.length) (H' := [ar 0 (.sl (.sl (.int .i64))) (x41.set x42.toNat y57) .dp, none]) K (by kernel_rfl) g59 <| sN K [0, 3, 4] [0] ⟨[(0, Vv (.sl (.sl (.sl (.int .i64)))) a0), (3, hh 0), (4, I x42)], [ar 0 (.sl (.sl (.int .i64))) (x41.set x42.toNat y57) .dp]⟩ (tn 0) <| nE K (tn 3) ?_
    exact aro [.ren [0, 3, 4] [0]] ⟨(x41.set x42.toNat y57), (wr (x42 + (1 : Int))), rfl, h⟩
   refine VW.exit ?_
   exact arv [.ren [3] [0]] ⟨x41, rfl, h⟩
 rintro s ⟨x30, rfl, h⟩
 unfold F10_j0 at h
 refine nR K (tn 2) ?_
 cases h; exact VW.ret (rt [some 0])
def F36 (N : Nat) (a0 : Z52) : Option (Z52) :=
  andO (F57 N a0.2.2.2.2.2.2) fun y1 => some (a0.1, (a0.2.1, (a0.2.2.1, (a0.2.2.2.1, (a0.2.2.2.2.1, (a0.2.2.2.2.2.1, y1))))))
theorem ok36 N a0 {r} (h : F36 N a0 = some r) : Con prog 36 [.agg (lv Y52 a0)] [.agg [.v (.int .i64) r.1, .v .str r.2.1, .v (.int .i64) r.2.2.1, .v (.int .i64) r.2.2.2.1, .v (.int .i64) r.2.2.2.2.1, .v .bool r.2.2.2.2.2.1, .own (.int .i64) r.2.2.2.2.2.2 .dp]] := by
 refine ctr [.agg [.v (.int .i64), .v .str, .v (.int .i64), .v (.int .i64), .v (.int .i64), .v .bool, .own (.int .i64) .dp]] K func36 rfl fun w0 E0 ht => ?_
 unfold F36 at h
 show VW _ _ _ _ _ (retQ _ _ _ _) _
 refine nR K (tn 2) <| nR K (tn 1) <| nR K (tn 4) <| nR K (tn 4) <| nR K (tn 4) <| nR K (tn 4) <| nR K (tn 4) <| nR K (tn 4) <| sq <| VW.region <| nG K 2 (tn 2) ?_
 obtain⟨y1,hy,h⟩:=aS h
 refine clc false [.t (.sl (.int .i64))] [] (some 24) K (ok57 N _ hy) <| nN K (tn 2) <| nR K (tn 2) ?_
 cases h; exact VW.ret (rt [some 3])
def F11_j0 (N : Nat) (x30 : (List Z52)) : Option ((List Z52)) :=
  some x30
def F11_l0_b (N : Nat) (a0 : (List Z52)) (nx51 : (List Z52) → Int → Option ((List Z52))) (x41 : (List Z52)) (x42 : Int) : Option ((List Z52)) :=
  cond (decide (x42 < (a0.length : Int))) (gd (InR x42 a0.length) (andO (F36 N (a0.getD x42.toNat (Ty.dflt Y52))) fun y57 => gd (InR x42 x41.length) (gd (x42.toNat < x41.length) (nx51 (x41.set x42.toNat y57) (IntKind.i64.wrap (x42 + (1 : Int))))))) (F11_j0 N x41)
def F11_l0 (N : Nat) (a0 : (List Z52)) := loopF (F11_l0_b N a0) (fun _ _ => none)
theorem F11_l0_s N a0 {k} (hk : 0 < k) x41 x42 : F11_l0 N a0 k x41 x42 = F11_l0_b N a0 (F11_l0 N a0 (k - 1)) x41 x42 := by cases k;cases hk;rfl
def F11 (N : Nat) (a0 : (List Z52)) : Option ((List Z52)) :=
  gd (0 ≤ (a0.length : Int) ∧ (a0.length : Int) ≤ (lim Y52 : Int) ∧ (a0.length : Int) = (a0.length : Int)) (F11_l0 N a0 N (List.replicate (a0.length : Int).toNat (Ty.dflt Y52)) (0 : Int))
theorem ok11 N a0 {r} (h : F11 N a0 = some r) : Con prog 11 [Vv (.sl Y52) a0] [.lf (.own Y52 r .dp)] := by
 refine ctr [.lf (.own Y52 .dp)] K func11 rfl fun w0 E0 ht => ?_
 unfold F11 at h
 show VW _ _ _ _ _ (retQ _ _ _ _) _
 refine nR K (tn 1) ?_
 obtain⟨g1,h⟩:=gS h
 refine nR K (pu 2 (an g1 (tn 1))) ?_
 refine VW.join (fun s => ∃ x30, s = ⟨[(3, hh 0)], [ar 0 Y52 x30 .dp]⟩ ∧ F11_j0 N x30 = some r) ?_ ?_
 ·refine nR K (tn 1) <| VW.block <| lop (fun k s => ∃ x41 x42, s = ⟨[(0, Vv (.sl Y52) a0), (3, hh 0), (4, I x42)], [ar 0 Y52 x41 .dp]⟩ ∧ F11_l0 N a0 k x41 x42 = some r) N [.ren [0, 3, 4] [0]] ⟨(List.replicate (a0.length : Int).toNat D52), (0 : Int), rfl, h⟩ ?_
  rintro k51 s ⟨x41, x42, rfl, h⟩
  cases k51 with
  | zero => cases show none = some r from h
  | succ k51 =>
   replace h : F11_l0_b N a0 (F11_l0 N a0 k51) x41 x42 = some r := h
   unfold F11_l0_b at h
   refine sq <| nR K (tn 4) ?_
   refine cnd h ?_ ?_<;>intro h
   ·refine VW.skip <| sq <| VW.block <| VW.region ?_
    obtain⟨g56,h⟩:=gS h
    refine nG K 6 (pu 4 (an g56 (tn 1))) ?_
    obtain⟨y57,hy,h⟩:=aS h
    refine clc false [.t Y52] [] (some 20) K (ok36 N _ hy) ?_
    obtain⟨g58,h⟩:=gS h
    refine nG K 1 (an g58 (tn 0)) ?_
    obtain⟨g59,h⟩:=gS h
    refine VO.storeA (φ := x42.toNat < x41.length) (H' := [ar 0 Y52 (x41.set x42.toNat y57) .dp, none]) K (by kernel_rfl) g59 <| sN K [0, 3, 4] [0] ⟨[(0, Vv (.sl Y52) a0), (3, hh 0), (4, I x42)], [ar 0 Y52 (x41.set x42.toNat y57) .dp]⟩ (tn 0) <| nE K (tn 3) ?_
    exact aro [.ren [0, 3, 4] [0]] ⟨(x41.set x42.toNat y57), (wr (x42 + (1 : Int))), rfl, h⟩
   refine VW.exit ?_
   exact arv [.ren [3] [0]] ⟨x41, rfl, h⟩
 rintro s ⟨x30, rfl, h⟩
 unfold F11_j0 at h
 refine nR K (tn 2) ?_
 cases h; exact VW.ret (rt [some 0])
def F87 (N : Nat) (a0 : Int) (a1 : Int) (a2 : Int) : Option (Bool) :=
  cond (decide (a0 ≥ a1)) (some (decide (a0 ≤ a2))) (some false)
theorem ok87 N a0 a1 a2 {r} (h : F87 N a0 a1 a2 = some r) : Con prog 87 [I a0, I a1, I a2] [.lf (.v .bool r)] := by
 refine ctr [.lf (.v .bool)] K func87 rfl fun w0 E0 ht => ?_
 unfold F87 at h
 show VW _ _ _ _ _ (retQ _ _ _ _) _
 refine nR K (tn 1) <| sq <| VW.region <| nG K 4 (tn 4) ?_
 refine spC 10 h ?_ ?_<;>intro h
 ·refine nN K (tn 5) ?_
  cases h; exact VW.ret (rt [])
 refine nN K (tn 5) ?_
 cases h; exact VW.ret (rt [])
def F86_j0 (N : Nat) (a0 : ByteArray) : Option (Bool) :=
  andO (F87 N (a0.size : Int) (1 : Int) (12 : Int)) fun y14 => some y14
def F86_j1 (N : Nat) (nx25 : Int → Int → Option (Bool)) (x20 : Int) (x21 : Int) : Option (Bool) :=
  nx25 x20 (IntKind.i64.wrap (x21 + (1 : Int)))
def F86_l0_b (N : Nat) (a0 : ByteArray) (nx25 : Int → Int → Option (Bool)) (x20 : Int) (x21 : Int) : Option (Bool) :=
  cond (decide (x21 < x20)) (gd (InR x21 a0.size) (cond (decide (((a0.data.getD x21.toNat 0).toNat : Int) ≥ (97 : Int))) (cond (!(decide (((a0.data.getD x21.toNat 0).toNat : Int) ≤ (122 : Int)))) (cond (x21 == (0 : Int)) (some false) (cond (decide (((a0.data.getD x21.toNat 0).toNat : Int) < (48 : Int))) (some false) (cond (decide (((a0.data.getD x21.toNat 0).toNat : Int) > (57 : Int))) (some false) (F86_j1 N nx25 x20 x21)))) (F86_j1 N nx25 x20 x21)) (cond (x21 == (0 : Int)) (some false) (cond (decide (((a0.data.getD x21.toNat 0).toNat : Int) < (48 : Int))) (some false) (cond (decide (((a0.data.getD x21.toNat 0).toNat : Int) > (57 : Int))) (some false) (F86_j1 N nx25 x20 x21)))))) (F86_j0 N a0)
def F86_l0 (N : Nat) (a0 : ByteArray) := loopF (F86_l0_b N a0) (fun _ _ => none)
theorem F86_l0_s N a0 {k} (hk : 0 < k) x20 x21 : F86_l0 N a0 k x20 x21 = F86_l0_b N a0 (F86_l0 N a0 (k - 1)) x20 x21 := by cases k;cases hk;rfl
def F86 (N : Nat) (a0 : ByteArray) : Option (Bool) :=
  F86_l0 N a0 N (a0.size : Int) (0 : Int)
theorem ok86 N a0 {r} (h : F86 N a0 = some r) : Con prog 86 [S a0] [.lf (.v .bool r)] := by
 refine ctr [.lf (.v .bool)] K func86 rfl fun w0 E0 ht => ?_
 unfold F86 at h
 show VW _ _ _ _ _ (retQ _ _ _ _) _
 refine nR K (tn 1) ?_
 refine VW.join (fun s => s = ⟨[(0, S a0)], []⟩ ∧ F86_j0 N a0 = some r) ?_ ?_
 ·refine nR K (tn 3) <| VW.block <| lop (fun k s => ∃ x20 x21, s = ⟨[(0, S a0), (7, I x20), (8, I x21)], []⟩ ∧ F86_l0 N a0 k x20 x21 = some r) N [.ren [0, 7, 8] []] ⟨(a0.size : Int), (0 : Int), rfl, h⟩ ?_
  rintro k25 s ⟨x20, x21, rfl, h⟩
  cases k25 with
  | zero => cases show none = some r from h
  | succ k25 =>
   replace h : F86_l0_b N a0 (F86_l0 N a0 k25) x20 x21 = some r := h
   unfold F86_l0_b at h
   refine nR K (tn 1) <| sq ?_
   refine cnd h ?_ ?_<;>intro h
   ·refine VW.skip ?_
    refine VW.join (fun s => s = ⟨[(0, S a0), (7, I x20), (8, I x21)], []⟩ ∧ F86_j1 N (F86_l0 N a0 k25) x20 x21 = some r) ?_ ?_
    ·refine VW.block <| nR K (tn 2) ?_
     obtain⟨g28,h⟩:=gS h
     refine nR K (pu 2 (an g28 (tn 1))) <| sq <| VW.region <| nG K 3 (tn 3) ?_
     refine spC 16 h ?_ ?_<;>intro h
     ·refine nN K (tn 4) <| sq <| VW.region <| nG K 3 (tn 3) ?_
      refine spC 22 h ?_ ?_<;>intro h
      ·refine nG K 3 (tn 3) ?_
       refine spC 25 h ?_ ?_<;>intro h
       ·refine nN K (tn 8) ?_
        refine VW.cond (b := true) (by kernel_rfl) (fun _ => ?_) (fun h' => nomatch h')
        refine nR K (tn 1) ?_
        cases h; exact VW.ret (rt [])
       refine nG K 4 (tn 4) ?_
       refine spC 29 h ?_ ?_<;>intro h
       ·refine nN K (tn 4) ?_
        refine VW.cond (b := true) (by kernel_rfl) (fun _ => ?_) (fun h' => nomatch h')
        refine nR K (tn 1) ?_
        cases h; exact VW.ret (rt [])
       refine nN K (tn 4) ?_
       refine cnd h ?_ ?_<;>intro h
       ·refine nR K (tn 1) ?_
        cases h; exact VW.ret (rt [])
       refine VW.skip ?_
       exact arv [.ren [0, 7, 8] []] ⟨rfl, h⟩
      refine nN K (tn 11) ?_
      refine VW.cond (b := false) (by kernel_rfl) (fun h' => nomatch h') (fun _ => ?_)
      refine VW.skip ?_
      exact arv [.ren [0, 7, 8] []] ⟨rfl, h⟩
     refine nN K (tn 4) <| sq <| VW.region <| nG K 6 (tn 6) ?_
     refine spC 25 h ?_ ?_<;>intro h
     ·refine nN K (tn 8) ?_
      refine VW.cond (b := true) (by kernel_rfl) (fun _ => ?_) (fun h' => nomatch h')
      refine nR K (tn 1) ?_
      cases h; exact VW.ret (rt [])
     refine nG K 4 (tn 4) ?_
     refine spC 29 h ?_ ?_<;>intro h
     ·refine nN K (tn 4) ?_
      refine VW.cond (b := true) (by kernel_rfl) (fun _ => ?_) (fun h' => nomatch h')
      refine nR K (tn 1) ?_
      cases h; exact VW.ret (rt [])
     refine nN K (tn 4) ?_
     refine cnd h ?_ ?_<;>intro h
     ·refine nR K (tn 1) ?_
      cases h; exact VW.ret (rt [])
     refine VW.skip ?_
     exact arv [.ren [0, 7, 8] []] ⟨rfl, h⟩
    rintro s ⟨rfl, h⟩
    unfold F86_j1 at h
    refine nE K (tn 2) ?_
    exact aro [.ren [0, 7, 8] []] ⟨x20, (wr (x21 + (1 : Int))), rfl, h⟩
   refine VW.exit ?_
   exact arv [.ren [0] []] ⟨rfl, h⟩
 rintro s ⟨rfl, h⟩
 unfold F86_j0 at h
 refine sq <| VW.region <| nG K 2 (tn 2) ?_
 obtain⟨y14,hy,h⟩:=aS h
 refine clc false [.t (.int .i64), .t (.int .i64), .t (.int .i64)] [] (some 37) K (ok87 N _ _ _ hy) <| nN K (tn 1) ?_
 cases h; exact VW.ret (rt [])
def F58_j0 (N : Nat) (a0 : (List Z49)) : Option (Bool) :=
  some (decide ((a0.length : Int) ≤ (8 : Int)))
def F58_j1 (N : Nat) (nx84 : Int → Int → Option (Bool)) (x67 : Int) (x68 : Int) : Option (Bool) :=
  nx84 x67 (IntKind.i64.wrap (x68 + (1 : Int)))
def F58_l0_b (N : Nat) (a0 : (List Z49)) (nx84 : Int → Int → Option (Bool)) (x67 : Int) (x68 : Int) : Option (Bool) :=
  cond (decide (x68 < x67)) (gd (InR x68 a0.length) (andO (F86 N ((a0.getD x68.toNat (Ty.dflt Y49)).1)) fun y94 => cond (!y94) (some false) (andO (F87 N ((a0.getD x68.toNat (Ty.dflt Y49)).2) (1 : Int) (6 : Int)) fun y96 => cond (!y96) (some false) (cond (decide (x68 > (0 : Int))) (gd (InR (IntKind.i64.wrap (x68 - (1 : Int))) a0.length) (cond (!(Op.bytesLess ((a0.getD (IntKind.i64.wrap (x68 - (1 : Int))).toNat (Ty.dflt Y49)).1).toList ((a0.getD x68.toNat (Ty.dflt Y49)).1).toList)) (some false) (F58_j1 N nx84 x67 x68))) (F58_j1 N nx84 x67 x68))))) (F58_j0 N a0)
def F58_l0 (N : Nat) (a0 : (List Z49)) := loopF (F58_l0_b N a0) (fun _ _ => none)
theorem F58_l0_s N a0 {k} (hk : 0 < k) x67 x68 : F58_l0 N a0 k x67 x68 = F58_l0_b N a0 (F58_l0 N a0 (k - 1)) x67 x68 := by cases k;cases hk;rfl
def F58 (N : Nat) (a0 : (List Z49)) : Option (Bool) :=
  F58_l0 N a0 N (a0.length : Int) (0 : Int)
theorem ok58 N a0 {r} (h : F58 N a0 = some r) : Con prog 58 [Vv (.sl Y49) a0] [.lf (.v .bool r)] := by
 refine ctr [.lf (.v .bool)] K func58 rfl fun w0 E0 ht => ?_
 unfold F58 at h
 show VW _ _ _ _ _ (retQ _ _ _ _) _
 refine nR K (tn 1) ?_
 refine VW.join (fun s => s = ⟨[(0, Vv (.sl Y49) a0)], []⟩ ∧ F58_j0 N a0 = some r) ?_ ?_
 ·refine nR K (tn 3) <| VW.block <| lop (fun k s => ∃ x67 x68, s = ⟨[(0, Vv (.sl Y49) a0), (5, Vv (.sl Y49) a0), (6, I x67), (7, I x68)], []⟩ ∧ F58_l0 N a0 k x67 x68 = some r) N [.ren [0, 5, 6, 7] []] ⟨(a0.length : Int), (0 : Int), rfl, h⟩ ?_
  rintro k84 s ⟨x67, x68, rfl, h⟩
  cases k84 with
  | zero => cases show none = some r from h
  | succ k84 =>
   replace h : F58_l0_b N a0 (F58_l0 N a0 k84) x67 x68 = some r := h
   unfold F58_l0_b at h
   refine nR K (tn 1) <| sq ?_
   refine cnd h ?_ ?_<;>intro h
   ·refine VW.skip ?_
    refine VW.join (fun s => s = ⟨[(0, Vv (.sl Y49) a0), (5, Vv (.sl Y49) a0), (6, I x67), (7, I x68)], []⟩ ∧ F58_j1 N (F58_l0 N a0 k84) x67 x68 = some r) ?_ ?_
    ·refine VW.block ?_
     obtain⟨g93,h⟩:=gS h
     refine nR K (pu 1 (an g93 (tn 4))) <| sq ?_
     obtain⟨y94,hy94,h⟩:=aS h
     rcases Bool.eq_false_or_eq_true (!y94) with hb95 | hb95
     ·replace h := cond_t h hb95
      refine dr K [(2, .cl [] (some 14) [.lf (.v .bool y94)]), (4, .lit true)] [(2, 0), (4, 0)] [] [0, 5, 6, 7, 36] [] (tn 25) ⟨qC false [.t .str] [] [] (some 14) K (ok86 N _ hy94), qB 16 hb95 K trivial, trivial⟩ ?_
      refine VW.cond (b := true) (by kernel_rfl) (fun _ => ?_) (fun h' => nomatch h')
      refine nR K (tn 1) ?_
      cases h; exact VW.ret (rt [])
     replace h := cond_f h hb95
     obtain⟨y96,hy96,h⟩:=aS h
     rcases Bool.eq_false_or_eq_true (!y96) with hb97 | hb97
     ·replace h := cond_t h hb97
      refine dr K [(2, .cl [] (some 14) [.lf (.v .bool y94)]), (4, .lit false), (7, .cl [] (some 19) [.lf (.v .bool y96)]), (10, .lit true)] [(2, 0), (4, 0), (7, 0), (10, 0)] [] [0, 5, 6, 7, 36] [] (tn 25) ⟨qC false [.t .str] [] [] (some 14) K (ok86 N _ hy94), qB 16 hb95 K trivial, qC false [.t (.int .i64), .t (.int .i64), .t (.int .i64)] [] [] (some 19) K (ok87 N _ _ _ hy96), qB 22 hb97 K trivial, trivial⟩ ?_
      refine VW.cond (b := true) (by kernel_rfl) (fun _ => ?_) (fun h' => nomatch h')
      refine nR K (tn 1) ?_
      cases h; exact VW.ret (rt [])
     replace h := cond_f h hb97
     rcases Bool.eq_false_or_eq_true (decide (x68 > (0 : Int))) with hb98 | hb98
     ·replace h := cond_t h hb98
      obtain⟨g99,h⟩:=gS h
      refine dr K [(2, .cl [] (some 14) [.lf (.v .bool y94)]), (4, .lit false), (7, .cl [] (some 19) [.lf (.v .bool y96)]), (10, .lit false), (13, .lit true)] [(2, 0), (4, 0), (7, 0), (10, 0), (13, 0)] [] [0, 5, 6, 7, 36] [] (pu 17 (an g99 (tn 7))) ⟨qC false [.t .str] [] [] (some 14) K (ok86 N _ hy94), qB 16 hb95 K trivial, qC false [.t (.int .i64), .t (.int .i64), .t (.int .i64)] [] [] (some 19) K (ok87 N _ _ _ hy96), qB 22 hb97 K trivial, qB 25 hb98 K trivial, trivial⟩ ?_
      refine cnd h ?_ ?_<;>intro h
      ·refine nR K (tn 1) ?_
       cases h; exact VW.ret (rt [])
      refine VW.skip ?_
      exact arv [.ren [0, 5, 6, 7] []] ⟨rfl, h⟩
     replace h := cond_f h hb98
     refine dr K [(2, .cl [] (some 14) [.lf (.v .bool y94)]), (4, .lit false), (7, .cl [] (some 19) [.lf (.v .bool y96)]), (10, .lit false), (13, .lit false)] [(2, 0), (4, 0), (7, 0), (10, 0), (13, 0)] [] [0, 5, 6, 7, 36] [] (tn 25) ⟨qC false [.t .str] [] [] (some 14) K (ok86 N _ hy94), qB 16 hb95 K trivial, qC false [.t (.int .i64), .t (.int .i64), .t (.int .i64)] [] [] (some 19) K (ok87 N _ _ _ hy96), qB 22 hb97 K trivial, qB 25 hb98 K trivial, trivial⟩ ?_
     refine VW.cond (b := false) (by kernel_rfl) (fun h' => nomatch h') (fun _ => ?_)
     refine VW.skip ?_
     exact arv [.ren [0, 5, 6, 7] []] ⟨rfl, h⟩
    rintro s ⟨rfl, h⟩
    unfold F58_j1 at h
    refine nE K (tn 2) ?_
    exact aro [.ren [0, 5, 6, 7] []] ⟨x67, (wr (x68 + (1 : Int))), rfl, h⟩
   refine VW.exit ?_
   exact arv [.ren [0] []] ⟨rfl, h⟩
 rintro s ⟨rfl, h⟩
 unfold F58_j0 at h
 refine nR K (tn 4) ?_
 cases h; exact VW.ret (rt [])
def F88_j0 (N : Nat) : Option (Int) :=
  some (-1 : Int)
def F88_l0_b (N : Nat) (a0 : (List Int)) (p1 : Int → Option (Bool)) (nx29 : Int → Int → Option (Int)) (x23 : Int) (x24 : Int) : Option (Int) :=
  cond (decide (x24 < x23)) (gd (InR x24 a0.length) (andO (p1 (a0.getD x24.toNat (Ty.dflt (.int .i64)))) fun y33 => cond y33 (some x24) (nx29 x23 (IntKind.i64.wrap (x24 + (1 : Int)))))) (F88_j0 N)
def F88_l0 (N : Nat) (a0 : (List Int)) (p1 : Int → Option (Bool)) := loopF (F88_l0_b N a0 p1) (fun _ _ => none)
theorem F88_l0_s N a0 (p1 : Int → Option (Bool)) {k} (hk : 0 < k) x23 x24 : F88_l0 N a0 p1 k x23 x24 = F88_l0_b N a0 p1 (F88_l0 N a0 p1 (k - 1)) x23 x24 := by cases k;cases hk;rfl
def F88 (N : Nat) (a0 : (List Int)) (p1 : Int → Option (Bool)) : Option (Int) :=
  F88_l0 N a0 p1 N (a0.length : Int) (0 : Int)
theorem ok88 N a0 (g1 : FuncId) (p1 : Int → Option (Bool)) (hp1 : ∀ (z0 : Int) (r : Bool), p1 z0 = some r → Con prog g1 [I z0] [.lf (.v .bool r)]) {r} (h : F88 N a0 p1 = some r) : Con prog 88 [Vv (.sl (.int .i64)) a0, .clo g1 []] [.lf (.v (.int .i64) r)] := by
 refine ctr [.lf (.v (.int .i64))] K func88 rfl fun w0 E0 ht => ?_
 unfold F88 at h
 show VW _ _ _ _ _ (retQ _ _ _ _) _
 refine nR K (tn 1) ?_
 refine VW.join (fun s => s = ⟨[], []⟩ ∧ F88_j0 N = some r) ?_ ?_
 ·refine nR K (tn 3) <| VW.block <| lop (fun k s => ∃ x23 x24, s = ⟨[(0, Vv (.sl (.int .i64)) a0), (1, .clo g1 []), (7, I x23), (8, I x24)], []⟩ ∧ F88_l0 N a0 p1 k x23 x24 = some r) N [.ren [0, 1, 7, 8] []] ⟨(a0.length : Int), (0 : Int), rfl, h⟩ ?_
  rintro k29 s ⟨x23, x24, rfl, h⟩
  cases k29 with
  | zero => cases show none = some r from h
  | succ k29 =>
   replace h : F88_l0_b N a0 p1 (F88_l0 N a0 p1 k29) x23 x24 = some r := h
   unfold F88_l0_b at h
   refine nR K (tn 1) <| sq ?_
   refine cnd h ?_ ?_<;>intro h
   ·refine VW.skip <| sq <| VW.block <| nR K (tn 2) <| sq <| VW.region ?_
    obtain⟨g32,h⟩:=gS h
    refine nG K 5 (pu 3 (an g32 (tn 1))) ?_
    obtain⟨y33,hy,h⟩:=aS h
    refine clc false [.t (.int .i64)] [] (some 16) K (hp1 _ _ hy) <| nN K (tn 0) ?_
    refine cnd h ?_ ?_<;>intro h
    ·refine nR K (tn 2) ?_
     cases h; exact VW.ret (rt [])
    refine VW.skip <| nE K (tn 2) ?_
    exact aro [.ren [0, 1, 7, 8] []] ⟨x23, (wr (x24 + (1 : Int))), rfl, h⟩
   refine VW.exit ?_
   exact arv [.ren [] []] ⟨rfl, h⟩
 rintro s ⟨rfl, h⟩
 unfold F88_j0 at h
 refine nR K (tn 1) ?_
 cases h; exact VW.ret (rt [])
def F59 (N : Nat) (a0 : (List Int)) (p1 : Int → Option (Bool)) : Option (Bool) :=
  andO (F88 N a0 p1) fun y1 => some (decide (y1 ≥ (0 : Int)))
theorem ok59 N a0 (g1 : FuncId) (p1 : Int → Option (Bool)) (hp1 : ∀ (z0 : Int) (r : Bool), p1 z0 = some r → Con prog g1 [I z0] [.lf (.v .bool r)]) {r} (h : F59 N a0 p1 = some r) : Con prog 59 [Vv (.sl (.int .i64)) a0, .clo g1 []] [.lf (.v .bool r)] := by
 refine ctr [.lf (.v .bool)] K func59 rfl fun w0 E0 ht => ?_
 unfold F59 at h
 show VW _ _ _ _ _ (retQ _ _ _ _) _
 refine nR K (tn 1) <| sq <| VW.region <| nG K 2 (tn 2) ?_
 obtain⟨y1,hy,h⟩:=aS h
 refine clc false [.t (.sl (.int .i64)), .clo []] [] (some 7) K (ok88 N _ g1  p1 hp1 hy) <| nN K (tn 2) ?_
 cases h; exact VW.ret (rt [])
def F89 (N : Nat) (a0 : Int) : Option (Bool) :=
  andO (F87 N a0 (-1000000 : Int) (1000000 : Int)) fun y1 => some y1
theorem ok89 N a0 {r} (h : F89 N a0 = some r) : Con prog 89 [I a0] [.lf (.v .bool r)] := by
 refine ctr [.lf (.v .bool)] K func89 rfl fun w0 E0 ht => ?_
 unfold F89 at h
 show VW _ _ _ _ _ (retQ _ _ _ _) _
 refine nR K (tn 1) <| sq <| VW.region <| nG K 1 (tn 1) ?_
 obtain⟨y1,hy,h⟩:=aS h
 refine clc false [.t (.int .i64), .t (.int .i64), .t (.int .i64)] [] (some 4) K (ok87 N _ _ _ hy) <| nN K (tn 1) ?_
 cases h; exact VW.ret (rt [])
def F61 (N : Nat) (a0 : Int) : Option (Bool) :=
  andO (F89 N a0) fun y1 => cond y1 (some true) (some (a0 == (-2000000 : Int)))
theorem ok61 N a0 {r} (h : F61 N a0 = some r) : Con prog 61 [I a0] [.lf (.v .bool r)] := by
 refine ctr [.lf (.v .bool)] K func61 rfl fun w0 E0 ht => ?_
 unfold F61 at h
 show VW _ _ _ _ _ (retQ _ _ _ _) _
 refine nR K (tn 1) <| sq <| VW.region <| nG K 1 (tn 1) ?_
 obtain⟨y1,hy,h⟩:=aS h
 refine clc false [.t (.int .i64)] [] (some 4) K (ok89 N _ hy) <| nG K 1 (tn 1) ?_
 refine spC 5 h ?_ ?_<;>intro h
 ·refine nN K (tn 4) ?_
  cases h; exact VW.ret (rt [])
 refine nN K (tn 4) ?_
 cases h; exact VW.ret (rt [])
def F60 (N : Nat) (a0 : Int) : Option (Bool) :=
  andO (F61 N a0) fun y1 => some (!y1)
theorem ok60 N a0 {r} (h : F60 N a0 = some r) : Con prog 60 [I a0] [.lf (.v .bool r)] := by
 refine ctr [.lf (.v .bool)] K func60 rfl fun w0 E0 ht => ?_
 unfold F60 at h
 show VW _ _ _ _ _ (retQ _ _ _ _) _
 refine nR K (tn 1) <| sq <| VW.region <| nG K 1 (tn 1) ?_
 obtain⟨y1,hy,h⟩:=aS h
 refine clc false [.t (.int .i64)] [] (some 4) K (ok61 N _ hy) <| nN K (tn 2) ?_
 cases h; exact VW.ret (rt [])
def F37_j0 (N : Nat) : Option (Bool) :=
  some true
def F37_j1 (N : Nat) (nx266 : Int → Int → Option (Bool)) (x213 : Int) (x214 : Int) : Option (Bool) :=
  nx266 x213 (IntKind.i64.wrap (x214 + (1 : Int)))
def F37_l0_b (N : Nat) (a0 : (List Z49)) (nx266 : Int → Int → Option (Bool)) (x213 : Int) (x214 : Int) (nx311 : (List (List Int)) → Int → Int → Option (Bool)) (x302 : (List (List Int))) (x303 : Int) (x304 : Int) : Option (Bool) :=
  cond (decide (x304 < x303)) (gd (InR x304 x302.length) (gd (InR x214 a0.length) (cond (((x302.getD x304.toNat (Ty.dflt (.sl (.int .i64)))).length : Int) != ((a0.getD x214.toNat (Ty.dflt Y49)).2)) (some false) (andO (F59 N (x302.getD x304.toNat (Ty.dflt (.sl (.int .i64)))) (fun z0 => F60 N z0)) fun y317 => cond y317 (some false) (nx311 x302 x303 (IntKind.i64.wrap (x304 + (1 : Int)))))))) (F37_j1 N nx266 x213 x214)
def F37_l0 (N : Nat) (a0 : (List Z49)) (nx266 : Int → Int → Option (Bool)) (x213 : Int) (x214 : Int) := loopF (F37_l0_b N a0 nx266 x213 x214) (fun _ _ _ => none)
theorem F37_l0_s N a0 nx266 x213 x214 {k} (hk : 0 < k) x302 x303 x304 : F37_l0 N a0 nx266 x213 x214 k x302 x303 x304 = F37_l0_b N a0 nx266 x213 x214 (F37_l0 N a0 nx266 x213 x214 (k - 1)) x302 x303 x304 := by cases k;cases hk;rfl
def F37_l1_b (N : Nat) (a0 : (List Z49)) (a1 : (List (List (List Int)))) (nx266 : Int → Int → Option (Bool)) (x213 : Int) (x214 : Int) : Option (Bool) :=
  cond (decide (x214 < x213)) (gd (InR x214 a1.length) (cond (decide (((a1.getD x214.toNat (Ty.dflt (.sl (.sl (.int .i64))))).length : Int) > (40 : Int))) (some false) (F37_l0 N a0 nx266 x213 x214 N (a1.getD x214.toNat (Ty.dflt (.sl (.sl (.int .i64))))) ((a1.getD x214.toNat (Ty.dflt (.sl (.sl (.int .i64))))).length : Int) (0 : Int)))) (F37_j0 N)
def F37_l1 (N : Nat) (a0 : (List Z49)) (a1 : (List (List (List Int)))) := loopF (F37_l1_b N a0 a1) (fun _ _ => none)
theorem F37_l1_s N a0 a1 {k} (hk : 0 < k) x213 x214 : F37_l1 N a0 a1 k x213 x214 = F37_l1_b N a0 a1 (F37_l1 N a0 a1 (k - 1)) x213 x214 := by cases k;cases hk;rfl
def F37 (N : Nat) (a0 : (List Z49)) (a1 : (List (List (List Int)))) : Option (Bool) :=
  andO (F58 N a0) fun y2 => cond (!y2) (some false) (cond ((a1.length : Int) != (a0.length : Int)) (some false) (F37_l1 N a0 a1 N (a1.length : Int) (0 : Int)))
theorem ok37 N a0 a1 {r} (h : F37 N a0 a1 = some r) : Con prog 37 [Vv (.sl Y49) a0, Vv (.sl (.sl (.sl (.int .i64)))) a1] [.lf (.v .bool r)] := by
 refine ctr [.lf (.v .bool)] K func37 rfl fun w0 E0 ht => ?_
 unfold F37 at h
 show VW _ _ _ _ _ (retQ _ _ _ _) _
 refine nR K (tn 1) <| sq <| sq <| VW.region <| nG K 1 (tn 1) ?_
 obtain⟨y2,hy,h⟩:=aS h
 refine clc false [.t (.sl Y49)] [] (some 10) K (ok58 N _ hy) <| nG K 2 (tn 2) ?_
 refine spC 12 h ?_ ?_<;>intro h
 ·refine nN K (tn 6) ?_
  refine VW.cond (b := true) (by kernel_rfl) (fun _ => ?_) (fun h' => nomatch h')
  refine nR K (tn 1) ?_
  cases h; exact VW.ret (rt [])
 refine nN K (tn 6) ?_
 refine cnd h ?_ ?_<;>intro h
 ·refine nR K (tn 1) ?_
  cases h; exact VW.ret (rt [])
 refine VW.skip ?_
 refine VW.join (fun s => s = ⟨[], []⟩ ∧ F37_j0 N = some r) ?_ ?_
 ·refine nR K (tn 3) <| VW.block <| lop (fun k s => ∃ x213 x214, s = ⟨[(0, Vv (.sl Y49) a0), (19, Vv (.sl (.sl (.sl (.int .i64)))) a1), (20, I x213), (21, I x214)], []⟩ ∧ F37_l1 N a0 a1 k x213 x214 = some r) N [.ren [0, 19, 20, 21] []] ⟨(a1.length : Int), (0 : Int), rfl, h⟩ ?_
  rintro k266 s ⟨x213, x214, rfl, h⟩
  cases k266 with
  | zero => cases show none = some r from h
  | succ k266 =>
   replace h : F37_l1_b N a0 a1 (F37_l1 N a0 a1 k266) x213 x214 = some r := h
   unfold F37_l1_b at h
   refine nR K (tn 1) <| sq ?_
   refine cnd h ?_ ?_<;>intro h
   ·refine VW.skip ?_
    refine VW.join (fun s => s = ⟨[(0, Vv (.sl Y49) a0), (19, Vv (.sl (.sl (.sl (.int .i64)))) a1), (20, I x213), (21, I x214)], []⟩ ∧ F37_j1 N (F37_l1 N a0 a1 k266) x213 x214 = some r) ?_ ?_
    ·refine VW.block ?_
     obtain⟨g293,h⟩:=gS h
     refine nR K (pu 1 (an g293 (tn 3))) <| sq <| nR K (tn 3) ?_
     refine cnd h ?_ ?_<;>intro h
     ·refine nR K (tn 1) ?_
      cases h; exact VW.ret (rt [])
     refine VW.skip <| nR K (tn 3) <| VW.block <| lop (fun k s => ∃ x302 x303 x304, s = ⟨[(0, Vv (.sl Y49) a0), (5, I x214), (19, Vv (.sl (.sl (.sl (.int .i64)))) a1), (20, I x213), (21, I x214), (29, Vv (.sl (.sl (.int .i64))) x302), (30, I x303), (31, I x304)], []⟩ ∧ F37_l0 N a0 (F37_l1 N a0 a1 k266) x213 x214 k x302 x303 x304 = some r) N [.ren [0, 5, 19, 20, 21, 29, 30, 31] []] ⟨(a1.getD x214.toNat (Ty.dflt (.sl (.sl (.int .i64))))), ((a1.getD x214.toNat (Ty.dflt (.sl (.sl (.int .i64))))).length : Int), (0 : Int), rfl, h⟩ ?_
     rintro k311 s ⟨x302, x303, x304, rfl, h⟩
     cases k311 with
     | zero => cases show none = some r from h
     | succ k311 =>
      replace h : F37_l0_b N a0 (F37_l1 N a0 a1 k266) x213 x214 (F37_l0 N a0 (F37_l1 N a0 a1 k266) x213 x214 k311) x302 x303 x304 = some r := h
      unfold F37_l0_b at h
      refine nR K (tn 1) <| sq ?_
      refine cnd h ?_ ?_<;>intro h
      ·refine VW.skip <| sq <| VW.block ?_
       obtain⟨g315,h⟩:=gS h
       refine nR K (an g315 (tn 2)) <| sq <| VW.region ?_
       obtain⟨g316,h⟩:=gS h
       refine nG K 9 (pu 4 (an g316 (tn 4))) ?_
       refine spC 43 h ?_ ?_<;>intro h
       ·refine nN K (tn 3) ?_
        refine VW.cond (b := true) (by kernel_rfl) (fun _ => ?_) (fun h' => nomatch h')
        refine nR K (tn 1) ?_
        cases h; exact VW.ret (rt [])
       refine nG K 1 (tn 1) <| VO.on (j := 8) (want := false) (d := 43) (b := false) rfl rfl rfl (by kernel_rfl) rfl ?_
       obtain⟨y317,hy,h⟩:=aS h
       refine clc false [.t (.sl (.int .i64)), .clo []] [] (some 45) K (ok59 N _ 60  (fun z0 => F60 N z0 ) (fun z0 _ hz => ok60 N z0 hz) hy) <| nN K (tn 1) ?_
       refine cnd h ?_ ?_<;>intro h
       ·refine nR K (tn 1) ?_
        cases h; exact VW.ret (rt [])
       refine VW.skip <| nE K (tn 2) ?_
       exact aro [.ren [0, 5, 19, 20, 21, 29, 30, 31] []] ⟨x302, x303, (wr (x304 + (1 : Int))), rfl, h⟩
      refine VW.exit ?_
      exact arv [.ren [0, 19, 20, 21] []] ⟨rfl, h⟩
    rintro s ⟨rfl, h⟩
    unfold F37_j1 at h
    refine nE K (tn 2) ?_
    exact aro [.ren [0, 19, 20, 21] []] ⟨x213, (wr (x214 + (1 : Int))), rfl, h⟩
   refine VW.exit ?_
   exact arv [.ren [] []] ⟨rfl, h⟩
 rintro s ⟨rfl, h⟩
 unfold F37_j0 at h
 refine nR K (tn 1) ?_
 cases h; exact VW.ret (rt [])
def F92_j0 (N : Nat) : Option (Int) :=
  some (-1 : Int)
def F92_l0_b (N : Nat) (a0 : (List Z52)) (p1 : Z52 → Option (Bool)) (nx29 : Int → Int → Option (Int)) (x23 : Int) (x24 : Int) : Option (Int) :=
  cond (decide (x24 < x23)) (gd (InR x24 a0.length) (andO (p1 (a0.getD x24.toNat (Ty.dflt Y52))) fun y33 => cond y33 (some x24) (nx29 x23 (IntKind.i64.wrap (x24 + (1 : Int)))))) (F92_j0 N)
def F92_l0 (N : Nat) (a0 : (List Z52)) (p1 : Z52 → Option (Bool)) := loopF (F92_l0_b N a0 p1) (fun _ _ => none)
theorem F92_l0_s N a0 (p1 : Z52 → Option (Bool)) {k} (hk : 0 < k) x23 x24 : F92_l0 N a0 p1 k x23 x24 = F92_l0_b N a0 p1 (F92_l0 N a0 p1 (k - 1)) x23 x24 := by cases k;cases hk;rfl
def F92 (N : Nat) (a0 : (List Z52)) (p1 : Z52 → Option (Bool)) : Option (Int) :=
  F92_l0 N a0 p1 N (a0.length : Int) (0 : Int)
theorem ok92 N a0 (g1 : FuncId) (p1 : Z52 → Option (Bool)) (hp1 : ∀ (z0 : Z52) (r : Bool), p1 z0 = some r → Con prog g1 [.agg (lv Y52 z0)] [.lf (.v .bool r)]) {r} (h : F92 N a0 p1 = some r) : Con prog 92 [Vv (.sl Y52) a0, .clo g1 []] [.lf (.v (.int .i64) r)] := by
 refine ctr [.lf (.v (.int .i64))] K func92 rfl fun w0 E0 ht => ?_
 unfold F92 at h
 show VW _ _ _ _ _ (retQ _ _ _ _) _
 refine nR K (tn 1) ?_
 refine VW.join (fun s => s = ⟨[], []⟩ ∧ F92_j0 N = some r) ?_ ?_
 ·refine nR K (tn 3) <| VW.block <| lop (fun k s => ∃ x23 x24, s = ⟨[(0, Vv (.sl Y52) a0), (1, .clo g1 []), (7, I x23), (8, I x24)], []⟩ ∧ F92_l0 N a0 p1 k x23 x24 = some r) N [.ren [0, 1, 7, 8] []] ⟨(a0.length : Int), (0 : Int), rfl, h⟩ ?_
  rintro k29 s ⟨x23, x24, rfl, h⟩
  cases k29 with
  | zero => cases show none = some r from h
  | succ k29 =>
   replace h : F92_l0_b N a0 p1 (F92_l0 N a0 p1 k29) x23 x24 = some r := h
   unfold F92_l0_b at h
   refine nR K (tn 1) <| sq ?_
   refine cnd h ?_ ?_<;>intro h
   ·refine VW.skip <| sq <| VW.block <| nR K (tn 2) <| sq <| VW.region ?_
    obtain⟨g32,h⟩:=gS h
    refine nG K 5 (pu 3 (an g32 (tn 1))) ?_
    obtain⟨y33,hy,h⟩:=aS h
    refine clc false [.t Y52] [] (some 16) K (hp1 _ _ hy) <| nN K (tn 0) ?_
    refine cnd h ?_ ?_<;>intro h
    ·refine nR K (tn 2) ?_
     cases h; exact VW.ret (rt [])
    refine VW.skip <| nE K (tn 2) ?_
    exact aro [.ren [0, 1, 7, 8] []] ⟨x23, (wr (x24 + (1 : Int))), rfl, h⟩
   refine VW.exit ?_
   exact arv [.ren [] []] ⟨rfl, h⟩
 rintro s ⟨rfl, h⟩
 unfold F92_j0 at h
 refine nR K (tn 1) ?_
 cases h; exact VW.ret (rt [])
def F63 (N : Nat) (a0 : (List Z52)) (p1 : Z52 → Option (Bool)) : Option (Bool) :=
  andO (F92 N a0 p1) fun y1 => some (decide (y1 ≥ (0 : Int)))
theorem ok63 N a0 (g1 : FuncId) (p1 : Z52 → Option (Bool)) (hp1 : ∀ (z0 : Z52) (r : Bool), p1 z0 = some r → Con prog g1 [.agg (lv Y52 z0)] [.lf (.v .bool r)]) {r} (h : F63 N a0 p1 = some r) : Con prog 63 [Vv (.sl Y52) a0, .clo g1 []] [.lf (.v .bool r)] := by
 refine ctr [.lf (.v .bool)] K func63 rfl fun w0 E0 ht => ?_
 unfold F63 at h
 show VW _ _ _ _ _ (retQ _ _ _ _) _
 refine nR K (tn 1) <| sq <| VW.region <| nG K 2 (tn 2) ?_
 obtain⟨y1,hy,h⟩:=aS h
 refine clc false [.t (.sl Y52), .clo []] [] (some 7) K (ok92 N _ g1  p1 hp1 hy) <| nN K (tn 2) ?_
 cases h; exact VW.ret (rt [])
def F93_j0 (N : Nat) (x6 : Bool) : Option (Int) :=
  cond x6 (some (1 : Int)) (some (-1 : Int))
def F93_j1 (N : Nat) (a0 : Int) (x5 : Bool) : Option (Int) :=
  cond x5 (some (2 : Int)) (cond (a0 == (1 : Int)) (F93_j0 N (a0 == (1 : Int))) (cond (a0 == (2 : Int)) (F93_j0 N (a0 == (2 : Int))) (cond (a0 == (5 : Int)) (F93_j0 N (a0 == (5 : Int))) (cond (a0 == (6 : Int)) (F93_j0 N (a0 == (6 : Int))) (F93_j0 N (a0 == (7 : Int)))))))
def F93 (N : Nat) (a0 : Int) : Option (Int) :=
  cond (a0 == (0 : Int)) (some (0 : Int)) (cond (a0 == (3 : Int)) (F93_j1 N a0 (a0 == (3 : Int))) (F93_j1 N a0 (a0 == (4 : Int))))
theorem ok93 N a0 {r} (h : F93 N a0 = some r) : Con prog 93 [I a0] [.lf (.v (.int .i64) r)] := by
 refine ctr [.lf (.v (.int .i64))] K func93 rfl fun w0 E0 ht => ?_
 unfold F93 at h
 show VW _ _ _ _ _ (retQ _ _ _ _) _
 refine nR K (tn 1) <| sq <| nR K (tn 1) <| VW.block <| nR K (tn 2) ?_
 refine cnd h ?_ ?_<;>intro h
 ·refine nR K (tn 1) ?_
  cases h; exact VW.ret (rt [])
 refine VW.join (fun s => ∃ x5, s = ⟨[(3, I a0), (6, B x5)], []⟩ ∧ F93_j1 N a0 x5 = some r) ?_ ?_
 ·refine nR K (tn 2) ?_
  refine cnd h ?_ ?_<;>intro h
  ·refine VW.skip ?_
   exact arv [.ren [3, 6] []] ⟨(a0 == (3 : Int)), rfl, h⟩
  refine nE K (tn 2) ?_
  exact arv [.ren [3, 6] []] ⟨(a0 == (4 : Int)), rfl, h⟩
 rintro s ⟨x5, rfl, h⟩
 unfold F93_j1 at h
 refine cnd h ?_ ?_<;>intro h
 ·refine nR K (tn 1) ?_
  cases h; exact VW.ret (rt [])
 refine VW.join (fun s => ∃ x6, s = ⟨[(9, B x6)], []⟩ ∧ F93_j0 N x6 = some r) ?_ ?_
 ·refine nR K (tn 2) ?_
  refine cnd h ?_ ?_<;>intro h
  ·refine VW.skip ?_
   exact arv [.ren [9] []] ⟨(a0 == (1 : Int)), rfl, h⟩
  refine nR K (tn 2) ?_
  refine cnd h ?_ ?_<;>intro h
  ·refine VW.skip ?_
   exact arv [.ren [9] []] ⟨(a0 == (2 : Int)), rfl, h⟩
  refine nR K (tn 2) ?_
  refine cnd h ?_ ?_<;>intro h
  ·refine VW.skip ?_
   exact arv [.ren [9] []] ⟨(a0 == (5 : Int)), rfl, h⟩
  refine nR K (tn 2) ?_
  refine cnd h ?_ ?_<;>intro h
  ·refine VW.skip ?_
   exact arv [.ren [9] []] ⟨(a0 == (6 : Int)), rfl, h⟩
  refine nE K (tn 2) ?_
  exact arv [.ren [9] []] ⟨(a0 == (7 : Int)), rfl, h⟩
 rintro s ⟨x6, rfl, h⟩
 unfold F93_j0 at h
 refine cnd h ?_ ?_<;>intro h
 ·refine nR K (tn 1) ?_
  cases h; exact VW.ret (rt [])
 refine VW.skip <| nR K (tn 1) ?_
 cases h; exact VW.ret (rt [])
def F94_j0 (N : Nat) (x13 : Int) : Option (Int) :=
  some x13
def F94_l0_b (N : Nat) (a0 : (List Z52)) (a2 : Int) (self : (List Z52) → Int → Int → Option (Int)) (y16 : Int) (nx24 : Int → Int → Option (Int)) (x20 : Int) (x21 : Int) : Option (Int) :=
  cond (decide (x21 < y16)) (andO (self a0 x20 (IntKind.i64.wrap (a2 + (1 : Int)))) fun y26 => cond (decide (y26 < (0 : Int))) (some (-1 : Int)) (nx24 y26 (IntKind.i64.wrap (x21 + (1 : Int))))) (F94_j0 N x20)
def F94_l0 (N : Nat) (a0 : (List Z52)) (a2 : Int) (self : (List Z52) → Int → Int → Option (Int)) (y16 : Int) := loopF (F94_l0_b N a0 a2 self y16) (fun _ _ => none)
theorem F94_l0_s N a0 a2 (self : (List Z52) → Int → Int → Option (Int)) y16 {k} (hk : 0 < k) x20 x21 : F94_l0 N a0 a2 self y16 k x20 x21 = F94_l0_b N a0 a2 self y16 (F94_l0 N a0 a2 self y16 (k - 1)) x20 x21 := by cases k;cases hk;rfl
def F94_b (N : Nat) (self : (List Z52) → Int → Int → Option (Int)) (a0 : (List Z52)) (a1 : Int) (a2 : Int) : Option (Int) :=
  cond (decide (a1 ≥ (a0.length : Int))) (some (-1 : Int)) (cond (decide (a2 > (10 : Int))) (some (-1 : Int)) (gd (InR a1 a0.length) (andO (F93 N ((a0.getD a1.toNat (Ty.dflt Y52)).1)) fun y16 => F94_l0 N a0 a2 self y16 N (IntKind.i64.wrap (a1 + (1 : Int))) (0 : Int))))
theorem ok94_b (N : Nat) (self : (List Z52) → Int → Int → Option (Int)) (ih : ∀ (a0 : (List Z52)) (a1 : Int) (a2 : Int) (r : Int), self a0 a1 a2 = some r → Con prog 94 [Vv (.sl Y52) a0, I a1, I a2] [.lf (.v (.int .i64) r)]) (a0 : (List Z52)) (a1 : Int) (a2 : Int) {r : Int} (h : F94_b N self a0 a1 a2 = some r) : Con prog 94 [Vv (.sl Y52) a0, I a1, I a2] [.lf (.v (.int .i64) r)] := by
 refine ctr [.lf (.v (.int .i64))] K func94 rfl fun w0 E0 ht => ?_
 unfold F94_b at h
 show VW _ _ _ _ _ (retQ _ _ _ _) _
 refine nR K (tn 1) <| sq <| sq <| VW.region <| nG K 5 (tn 5) ?_
 refine spC 12 h ?_ ?_<;>intro h
 ·refine nN K (tn 3) ?_
  refine VW.cond (b := true) (by kernel_rfl) (fun _ => ?_) (fun h' => nomatch h')
  refine nR K (tn 1) ?_
  cases h; exact VW.ret (rt [])
 refine nN K (tn 3) ?_
 refine cnd h ?_ ?_<;>intro h
 ·refine nR K (tn 1) ?_
  cases h; exact VW.ret (rt [])
 refine VW.skip <| nR K (tn 3) ?_
 refine VW.join (fun s => ∃ x13, s = ⟨[(7, I x13)], []⟩ ∧ F94_j0 N x13 = some r) ?_ ?_
 ·refine sq <| VW.region ?_
  obtain⟨g15,h⟩:=gS h
  refine nG K 5 (pu 2 (an g15 (tn 2))) ?_
  obtain⟨y16,hy,h⟩:=aS h
  refine clc false [.t (.int .i64)] [] (some 23) K (ok93 N _ hy) <| nN K (tn 1) <| VW.block <| lop (fun k s => ∃ x20 x21, s = ⟨[(0, Vv (.sl Y52) a0), (2, I a2), (7, I x20), (23, I y16), (24, I x21)], []⟩ ∧ F94_l0 N a0 a2 self y16 k x20 x21 = some r) N [.ren [0, 2, 7, 23, 24] []] ⟨(wr (a1 + (1 : Int))), (0 : Int), rfl, h⟩ ?_
  rintro k24 s ⟨x20, x21, rfl, h⟩
  cases k24 with
  | zero => cases show none = some r from h
  | succ k24 =>
   replace h : F94_l0_b N a0 a2 self y16 (F94_l0 N a0 a2 self y16 k24) x20 x21 = some r := h
   unfold F94_l0_b at h
   refine nR K (tn 1) <| sq ?_
   refine cnd h ?_ ?_<;>intro h
   ·refine VW.skip <| sq <| VW.block <| sq <| VW.region <| nG K 4 (tn 4) ?_
    obtain⟨y26,hy,h⟩:=aS h
    refine clc false [.t (.sl Y52), .t (.int .i64), .t (.int .i64)] [] (some 30) K (ih _ _ _ _ hy) <| nN K (tn 1) <| nR K (tn 2) ?_
    refine cnd h ?_ ?_<;>intro h
    ·refine nR K (tn 1) ?_
     cases h; exact VW.ret (rt [])
    refine VW.skip <| nE K (tn 2) ?_
    exact aro [.ren [0, 2, 7, 23, 24] []] ⟨y26, (wr (x21 + (1 : Int))), rfl, h⟩
   refine VW.exit ?_
   exact arv [.ren [7] []] ⟨x20, rfl, h⟩
 rintro s ⟨x13, rfl, h⟩
 unfold F94_j0 at h
 refine nR K (tn 2) ?_
 cases h; exact VW.ret (rt [])
def F94_r (N : Nat) := loopF (F94_b N) (fun _ _ _ => none)
theorem F94_s N {k} (hk : 0 < k) a0 a1 a2 : F94_r N k a0 a1 a2 = F94_b N (F94_r N (k - 1)) a0 a1 a2 := by cases k;cases hk;rfl
def F94 (N : Nat) : (List Z52) → Int → Int → Option (Int) := F94_r N N
theorem ok94_k (N : Nat) : ∀ (k : Nat) (a0 : (List Z52)) (a1 : Int) (a2 : Int) (r : Int), loopF (F94_b N) (fun _ _ _ => none) k a0 a1 a2 = some r → Con prog 94 [Vv (.sl Y52) a0, I a1, I a2] [.lf (.v (.int .i64) r)]
 | 0, a0, a1, a2, r, h => nomatch (show (none : Option (Int)) = some r from h)
 | k + 1, a0, a1, a2, r, h => ok94_b N _ (ok94_k N k) a0 a1 a2 h
theorem ok94 N a0 a1 a2 {r} (h : F94 N a0 a1 a2 = some r) : Con prog 94 [Vv (.sl Y52) a0, I a1, I a2] [.lf (.v (.int .i64) r)] := ok94_k N N a0 a1 a2 r h
def F110 (N : Nat) (a0 : Int) : Option (Bool) :=
  andO (F87 N a0 (0 : Int) (63 : Int)) fun y1 => some y1
theorem ok110 N a0 {r} (h : F110 N a0 = some r) : Con prog 110 [I a0] [.lf (.v .bool r)] := by
 refine ctr [.lf (.v .bool)] K func110 rfl fun w0 E0 ht => ?_
 unfold F110 at h
 show VW _ _ _ _ _ (retQ _ _ _ _) _
 refine nR K (tn 1) <| sq <| VW.region <| nG K 1 (tn 1) ?_
 obtain⟨y1,hy,h⟩:=aS h
 refine clc false [.t (.int .i64), .t (.int .i64), .t (.int .i64)] [] (some 4) K (ok87 N _ _ _ hy) <| nN K (tn 1) ?_
 cases h; exact VW.ret (rt [])
def F111 (N : Nat) (a0 : Int) : Option (Bool) :=
  andO (F87 N a0 (0 : Int) (39 : Int)) fun y1 => some y1
theorem ok111 N a0 {r} (h : F111 N a0 = some r) : Con prog 111 [I a0] [.lf (.v .bool r)] := by
 refine ctr [.lf (.v .bool)] K func111 rfl fun w0 E0 ht => ?_
 unfold F111 at h
 show VW _ _ _ _ _ (retQ _ _ _ _) _
 refine nR K (tn 1) <| sq <| VW.region <| nG K 1 (tn 1) ?_
 obtain⟨y1,hy,h⟩:=aS h
 refine clc false [.t (.int .i64), .t (.int .i64), .t (.int .i64)] [] (some 4) K (ok87 N _ _ _ hy) <| nN K (tn 1) ?_
 cases h; exact VW.ret (rt [])
def F112 (N : Nat) (a0 : Int) : Option (Bool) :=
  andO (F110 N a0) fun y1 => some (!y1)
theorem ok112 N a0 {r} (h : F112 N a0 = some r) : Con prog 112 [I a0] [.lf (.v .bool r)] := by
 refine ctr [.lf (.v .bool)] K func112 rfl fun w0 E0 ht => ?_
 unfold F112 at h
 show VW _ _ _ _ _ (retQ _ _ _ _) _
 refine nR K (tn 1) <| sq <| VW.region <| nG K 1 (tn 1) ?_
 obtain⟨y1,hy,h⟩:=aS h
 refine clc false [.t (.int .i64)] [] (some 4) K (ok110 N _ hy) <| nN K (tn 2) ?_
 cases h; exact VW.ret (rt [])
def F101_j0 (N : Nat) : Option (Bool) :=
  some true
def F101_l0_b (N : Nat) (a0 : (List Int)) (a1 : (List Int)) (nx29 : Int → Int → Option (Bool)) (x23 : Int) (x24 : Int) : Option (Bool) :=
  cond (decide (x24 < x23)) (gd (InR x24 a0.length) (gd (InR x24 a1.length) (cond ((a0.getD x24.toNat (Ty.dflt (.int .i64))) != (a1.getD x24.toNat (Ty.dflt (.int .i64)))) (some false) (nx29 x23 (IntKind.i64.wrap (x24 + (1 : Int))))))) (F101_j0 N)
def F101_l0 (N : Nat) (a0 : (List Int)) (a1 : (List Int)) := loopF (F101_l0_b N a0 a1) (fun _ _ => none)
theorem F101_l0_s N a0 a1 {k} (hk : 0 < k) x23 x24 : F101_l0 N a0 a1 k x23 x24 = F101_l0_b N a0 a1 (F101_l0 N a0 a1 (k - 1)) x23 x24 := by cases k;cases hk;rfl
def F101 (N : Nat) (a0 : (List Int)) (a1 : (List Int)) : Option (Bool) :=
  cond ((a0.length : Int) != (a1.length : Int)) (some false) (F101_l0 N a0 a1 N (a0.length : Int) (0 : Int))
theorem ok101 N a0 a1 {r} (h : F101 N a0 a1 = some r) : Con prog 101 [Vv (.sl (.int .i64)) a0, Vv (.sl (.int .i64)) a1] [.lf (.v .bool r)] := by
 refine ctr [.lf (.v .bool)] K func101 rfl fun w0 E0 ht => ?_
 unfold F101 at h
 show VW _ _ _ _ _ (retQ _ _ _ _) _
 refine nR K (tn 1) <| sq <| nR K (tn 5) ?_
 refine cnd h ?_ ?_<;>intro h
 ·refine nR K (tn 1) ?_
  cases h; exact VW.ret (rt [])
 refine VW.skip ?_
 refine VW.join (fun s => s = ⟨[], []⟩ ∧ F101_j0 N = some r) ?_ ?_
 ·refine nR K (tn 3) <| VW.block <| lop (fun k s => ∃ x23 x24, s = ⟨[(0, Vv (.sl (.int .i64)) a0), (1, Vv (.sl (.int .i64)) a1), (12, I x23), (13, I x24)], []⟩ ∧ F101_l0 N a0 a1 k x23 x24 = some r) N [.ren [0, 1, 12, 13] []] ⟨(a0.length : Int), (0 : Int), rfl, h⟩ ?_
  rintro k29 s ⟨x23, x24, rfl, h⟩
  cases k29 with
  | zero => cases show none = some r from h
  | succ k29 =>
   replace h : F101_l0_b N a0 a1 (F101_l0 N a0 a1 k29) x23 x24 = some r := h
   unfold F101_l0_b at h
   refine nR K (tn 1) <| sq ?_
   refine cnd h ?_ ?_<;>intro h
   ·refine VW.skip <| sq <| VW.block <| nR K (tn 2) <| sq ?_
    obtain⟨g32,h⟩:=gS h
    obtain⟨g33,h⟩:=gS h
    refine dr K [] [] [] [0, 1, 12, 13, 24] [] (pu 2 (an g32 (pu 3 (an g33 (tn 2))))) trivial ?_
    refine cnd h ?_ ?_<;>intro h
    ·refine nR K (tn 1) ?_
     cases h; exact VW.ret (rt [])
    refine VW.skip <| nE K (tn 2) ?_
    exact aro [.ren [0, 1, 12, 13] []] ⟨x23, (wr (x24 + (1 : Int))), rfl, h⟩
   refine VW.exit ?_
   exact arv [.ren [] []] ⟨rfl, h⟩
 rintro s ⟨rfl, h⟩
 unfold F101_j0 at h
 refine nR K (tn 1) ?_
 cases h; exact VW.ret (rt [])
def F113 (N : Nat) (a0 : Z52) (a1 : Z52) : Option (Bool) :=
  cond (a0.1 == a1.1) (cond (a0.2.1.toList == a1.2.1.toList) (cond (a0.2.2.1 == a1.2.2.1) (cond (a0.2.2.2.1 == a1.2.2.2.1) (cond (a0.2.2.2.2.1 == a1.2.2.2.2.1) (cond (a0.2.2.2.2.2.1 == a1.2.2.2.2.2.1) (andO (F101 N a0.2.2.2.2.2.2 a1.2.2.2.2.2.2) fun y1 => some y1) (some false)) (some false)) (some false)) (some false)) (some false)) (some false)
theorem ok113 N a0 a1 {r} (h : F113 N a0 a1 = some r) : Con prog 113 [.agg (lv Y52 a0), .agg (lv Y52 a1)] [.lf (.v .bool r)] := by
 refine ctr [.lf (.v .bool)] K func113 rfl fun w0 E0 ht => ?_
 unfold F113 at h
 show VW _ _ _ _ _ (retQ _ _ _ _) _
 refine nR K (tn 3) <| sq <| VW.region <| nG K 6 (tn 6) ?_
 refine spC 10 h ?_ ?_<;>intro h
 ·refine nG K 7 (tn 7) ?_
  refine spC 17 h ?_ ?_<;>intro h
  ·refine nG K 7 (tn 7) ?_
   refine spC 24 h ?_ ?_<;>intro h
   ·refine nG K 7 (tn 7) ?_
    refine spC 31 h ?_ ?_<;>intro h
    ·refine nG K 7 (tn 7) ?_
     refine spC 38 h ?_ ?_<;>intro h
     ·refine nG K 7 (tn 7) ?_
      refine spC 45 h ?_ ?_<;>intro h
      ·refine nG K 4 (tn 4) <| VO.on (j := 40) (want := true) (d := 45) (b := true) rfl rfl rfl (by kernel_rfl) rfl ?_
       obtain⟨y1,hy,h⟩:=aS h
       refine clc false [.t (.sl (.int .i64)), .t (.sl (.int .i64))] [] (some 50) K (ok101 N _ _ hy) <| nN K (tn 2) ?_
       cases h; exact VW.ret (rt [])
      refine nN K (tn 7) ?_
      cases h; exact VW.ret (rt [])
     refine nN K (tn 14) ?_
     cases h; exact VW.ret (rt [])
    refine nN K (tn 21) ?_
    cases h; exact VW.ret (rt [])
   refine nN K (tn 28) ?_
   cases h; exact VW.ret (rt [])
  refine nN K (tn 35) ?_
  cases h; exact VW.ret (rt [])
 refine nN K (tn 42) ?_
 cases h; exact VW.ret (rt [])
end Go.Proofs.YtpaagnjoniiemaaGreat.Vc
